/- TrainPairsUp: the law: all nine pairs make up for one another. -/
import Derived.Test.YtldkgfbgndkbdaaLwPairsUp3
set_option maxRecDepth 100000
set_option maxHeartbeats 4000000
set_option linter.unusedSimpArgs false
set_option linter.unusedVariables false
namespace Go.Proofs.Ytldkgfbgndkbdaa.Fw
open Go Go.RowKit
def endSt (k : Nat) : St := ⟨(73, .v (.bool false)) :: (72, .int .i64 (2 ^ k : Nat)) :: (71, .int .i64 (2 ^ k : Nat)) :: (chkSt [73, k - 1, 5] [1, 3, k, 5] [2, 3, k, 5] [1, 12, k, 5] [1, 19, k, 5] (2 ^ (k - 1)) (2 ^ k) ((pairAB (k - 1)).1.map cI8) ((pairAB k).1.map cI8) ((pairAB k).2.map cI8) ((autoL (pairAB k).1).map cI64) ((autoL (pairAB k).2).map cI64) k (2 ^ k : Nat)).env,
  h5 [73, k - 1, 5] [1, 3, k, 5] [2, 3, k, 5] [1, 12, k, 5] [1, 19, k, 5] ((pairAB (k - 1)).1.map cI8) ((pairAB k).1.map cI8) ((pairAB k).2.map cI8) ((autoL (pairAB k).1).map cI64) ((autoL (pairAB k).2).map cI64), 3⟩
def begSt (k : Nat) : St := chkSt [73, k - 1, 5] [1, 3, k, 5] [2, 3, k, 5] [1, 12, k, 5] [1, 19, k, 5] (2 ^ (k - 1)) (2 ^ k) ((pairAB (k - 1)).1.map cI8) ((pairAB k).1.map cI8) ((pairAB k).2.map cI8) ((autoL (pairAB k).1).map cI64) ((autoL (pairAB k).2).map cI64) k 0
theorem pair_len : ∀ k, (pairAB k).1.length = 2 ^ k ∧ (pairAB k).2.length = 2 ^ k
  | 0 => ⟨rfl, rfl⟩
  | k + 1 => by
    obtain ⟨h1, h2⟩ := pair_len k
    simp only [pairAB, List.length_append, List.length_map, h1, h2, Nat.pow_succ]
    omega
theorem auto_len (l : List Int) : (autoL l).length = l.length := by simp [autoL]
theorem told_round {k : Nat} (hk : k ≤ 9) (hok : (List.range (2 ^ k)).all (okAt (pairAB k).1 (pairAB k).2 (autoL (pairAB k).1) (autoL (pairAB k).2)) = true) {A A' : St}
    (hd : nxtD PB (runF PB 59) 0 [1,2] m3b1 [k, 5] A [(some 100000, .loop (.exit 2) (endSt k))] = some (A', [.loop 0 [1,2,3,4,6,8,10,11] m3b0 [63, k, 5] (begSt k) (.exit 2) (endSt k)])) :
    nxt 0 [1,2] (bodyOf PB (runF PB 59) 0 m3b1 [k, 5] A) = some A' := by
  obtain ⟨h1, h2⟩ := pair_len k
  have hb : 2 ^ k ≤ 2 ^ 9 := Nat.pow_le_pow_right (by decide) hk
  have hb : 2 ^ k ≤ 512 := hb
  have hl := chk_loop (A := (pairAB k).1) (B := (pairAB k).2) (X := autoL (pairAB k).1) (Y := autoL (pairAB k).2) (la := 2 ^ (k - 1)) (k := k) (sa := [73, k - 1, 5]) (s1 := [1, 3, k, 5]) (s2 := [2, 3, k, 5]) (s3 := [1, 12, k, 5]) (s4 := [1, 19, k, 5]) (π := [63, k, 5])
    (O := (pairAB (k - 1)).1.map cI8) (by omega) (by omega) (by rw [auto_len]) (by rw [auto_len]; omega) (fun s hs => List.all_eq_true.1 hok s (List.mem_range.2 (by omega)))
  rw [h1] at hl
  exact nxtD_sound hd ⟨⟨999, rfl, hl⟩, trivial⟩
theorem okPair6 : (List.range (2 ^ 6)).all (okAt (pairAB 6).1 (pairAB 6).2 (autoL (pairAB 6).1) (autoL (pairAB 6).2)) = true := by kernel_rfl
theorem okPair7 : (List.range (2 ^ 7)).all (okAt (pairAB 7).1 (pairAB 7).2 (autoL (pairAB 7).1) (autoL (pairAB 7).2)) = true := by kernel_rfl
theorem okPair8 : (List.range (2 ^ 8)).all (okAt (pairAB 8).1 (pairAB 8).2 (autoL (pairAB 8).1) (autoL (pairAB 8).2)) = true := by kernel_rfl
theorem told6 : nxtD PB (runF PB 59) 0 [1,2] m3b1 [6, 5] (rowA 6) [(some 100000, .loop (.exit 2) (endSt 6))] = some (rowA 7, [.loop 0 [1,2,3,4,6,8,10,11] m3b0 [63, 6, 5] (begSt 6) (.exit 2) (endSt 6)]) := by kernel_rfl
theorem told7 : nxtD PB (runF PB 59) 0 [1,2] m3b1 [7, 5] (rowA 7) [(some 100000, .loop (.exit 2) (endSt 7))] = some (rowA 8, [.loop 0 [1,2,3,4,6,8,10,11] m3b0 [63, 7, 5] (begSt 7) (.exit 2) (endSt 7)]) := by kernel_rfl
theorem told8 : nxtD PB (runF PB 59) 0 [1,2] m3b1 [8, 5] (rowA 8) [(some 100000, .loop (.exit 2) (endSt 8))] = some (rowA 9, [.loop 0 [1,2,3,4,6,8,10,11] m3b0 [63, 8, 5] (begSt 8) (.exit 2) (endSt 8)]) := by kernel_rfl
theorem rounds : ∀ i, i < 9 → nxt 0 [1,2] (bodyOf PB (runF PB 59) 0 m3b1 ((0 + i) :: [5]) (rowA i)) = some (rowA (i + 1))
  | 0, _ => round0
  | 1, _ => round1
  | 2, _ => round2
  | 3, _ => round3
  | 4, _ => round4
  | 5, _ => round5
  | 6, _ => told_round (by decide) okPair6 told6
  | 7, _ => told_round (by decide) okPair7 told7
  | 8, _ => told_round (by decide) okPair8 told8
  | n + 9, h => absurd h (by omega)
def lastSt : St := ⟨(16, .v (.bool false)) :: (15, .int .i64 9) :: (rowA 9).env, (rowA 9).H, 2⟩
theorem last_round : bodyOf PB (runF PB 59) 0 m3b1 ((0 + 9) :: [5]) (rowA 9) = some (.exit 0, lastSt) := by kernel_rfl
theorem all_rounds : LP (bodyOf PB (runF PB 59) 0 m3b1) 0 [1,2] [5] 999 0 (rowA 0) = some (.exit 0, lastSt) :=
  LP_go rowA 9 (by decide) rounds last_round (by simp)
theorem law3 : den PB 60 3 [] = some (.v (.bool true)) := by
  have hd : denD PB 59 3 [] [(some 100000, .loop (.exit 0) lastSt)] = some (.v (.bool true), [.loop 0 [1,2] m3b1 [5] (rowA 0) (.exit 0) lastSt]) := by kernel_rfl
  exact denD_sound hd ⟨⟨999, rfl, all_rounds⟩, trivial⟩
theorem spec_PB : SpecOk Try.prog PB := spec_auto
theorem calls3 {avs : List AV} {W : World} {args : Array Value} (h : FitsVs Try.prog 8 Try.f3.params.toList avs) (hr : RelL (ρ0 fun _ => False) old0 W avs args.toList) :
    Calls Try.prog 3 args W fun e w' => e = .returned (.bool true) ∧ Below W.heap.size W w' := by
  have h : FitsVs Try.prog 8 [] avs := by rw [Try.params3] at h; exact h
  obtain rfl := fitsVs_nil h
  exact law (L := 1000) spec_PB law3 hr
end Go.Proofs.Ytldkgfbgndkbdaa.Fw
namespace Go.Proofs.Ytldkgfbgndkbdaa
open Go.ChangeShapes Go.WideShapes Go.ChangeAt Go.RowKit Fw
theorem pairsUp_lifted (os : Os) (started : os.Started) (H : Type) (enc : TypeId × Value → H) :
    ReturnsInHanded {} Try.checked os 3 .any (Rows.trainPairsUpSpec.pre6 enc Try.prog Try.f3 Rows.trainPairsUpRow.domain false) (Rows.trainPairsUpSpec.post enc Try.prog Try.f3 false true false false) := by
  refine law_lifted (C := Try.checked) (n := 8) (tb := 4) own started (by kernel_rfl) Try.func3
    (ChangeSpec.witness6 (enc := enc) (C := Try.checked) false ⟨#[], #[], []⟩ 8 (by kernel_rfl) (by kernel_rfl) (by kernel_rfl) (by kernel_rfl))
    laidOut (by kernel_rfl) (by kernel_rfl) rfl ?_ rfl Try.underlying4 fun _ _ _ h hr => calls3 h hr
  intro ds hd
  have hd : ds.length = 0 := hd
  obtain rfl := List.length_eq_zero_iff.1 hd
  rfl
theorem pairsUp_holds : Rows.TrainPairsUpSaid :=
  OpenClaim.holds_of_wide 3 Try.f3 rfl rfl rfl rfl rfl rfl rfl ⟨rfl, rfl, rfl, rfl, rfl⟩ rfl rfl rfl rfl rfl (by kernel_rfl) Try.func3 (by kernel_rfl)
    (of_decide_eq_true (by kernel_rfl)) (by unfold Func.isWrapper; first | (rw [if_pos (by decide +kernel)]; kernel_rfl) | (rw [if_neg (by decide +kernel)]; exact ⟨rfl, rfl⟩))
    (fun os started H enc _ => pairsUp_lifted os started H enc)
end Go.Proofs.Ytldkgfbgndkbdaa
