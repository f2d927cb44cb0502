/- TrainNames: the numbers of chapter 14, the longest rows that are taken: it holds (a closed statement). -/
import Derived.Test.YtldkgfbgndkbdaaLwAuto3
set_option maxRecDepth 100000
set_option maxHeartbeats 4000000
set_option linter.unusedSimpArgs false
set_option linter.unusedVariables false
namespace Go.Proofs.Ytldkgfbgndkbdaa.Fw
open Go Go.RowKit
theorem take_rep (m : Nat) (z : List AV) : List.take m (List.replicate m z) = List.replicate m z := List.take_of_length_le (Nat.le_of_eq List.length_replicate)
theorem le_rep {P : Prog} {C : Caller} (m : Nat) (z : List AV) : Con.holds P C (.le m (List.replicate m z).length) := Nat.le_of_eq List.length_replicate.symm
theorem st_same {P : Prog} {C : Caller} (st : List Nat) : Con.holds P C (.st st st) := rfl
theorem call_den {P : Prog} {n : Nat} {f : FuncId} {avs : List AV} {r : AV} (h : den P n f avs = some r) : Con.holds P (runF P n) (.call f avs r) := h
theorem auto_rep {n : Nat} (m : Nat) (hm : m ≤ 4096) : ∃ X, den ⟨fnOf, specAbs, 4097⟩ (n+1) 12 [.lst 1 (List.take m (List.replicate m [.int .i8 0]))] = some (.tup [.own 1 X true, .int .i64 0]) := by
  rw [take_rep]
  have := @auto12 0 n (List.replicate m 0) (by rw [List.length_replicate]; exact hm)
  rw [List.map_replicate] at this
  exact ⟨_, this⟩
theorem auto_long {n : Nat} {els : List (List AV)} (hl : 4096 < els.length) : den ⟨fnOf, specAbs, 4097⟩ (n+1) 12 [.lst 1 els] = some (.tup [.nils, .int .i64 1]) := by
  have hd : denD ⟨fnOf, specAbs, 4097⟩ n 12 [.lst 1 els] [(some 10, .b true)] = some (.tup [.nils, .int .i64 1], [.b (decide ((els.length : Int) > 4096)) true]) := by kernel_rfl
  exact denD_sound hd ⟨by simp only [Con.holds, decide_eq_true_eq]; omega, trivial⟩
theorem against_long {n : Nat} {els : List (List AV)} (hl : 65536 < els.length) : den ⟨fnOf, specAbs, 4097⟩ (n+1) 24 [.lst 2 els, .int .i64 0, .int .i64 1, .nils] = some (.tup [.cpx 0 0, .int .i64 1]) := by
  have hd : denD ⟨fnOf, specAbs, 4097⟩ n 24 [.lst 2 els, .int .i64 0, .int .i64 1, .nils] [(some 18, .b true)] = some (.tup [.cpx 0 0, .int .i64 1], [.b (decide ((els.length : Int) > 65536)) true]) := by kernel_rfl
  exact denD_sound hd ⟨by simp only [Con.holds, decide_eq_true_eq]; omega, trivial⟩
theorem auto_rep_long {n : Nat} (m : Nat) (hm : 4096 < m) : den ⟨fnOf, specAbs, 4097⟩ (n+1) 12 [.lst 1 (List.take m (List.replicate m [.int .i8 0]))] = some (.tup [.nils, .int .i64 1]) := by
  rw [take_rep]
  exact auto_long (by rw [List.length_replicate]; exact hm)
theorem against_rep_long {n : Nat} (m : Nat) (hm : 65536 < m) : den ⟨fnOf, specAbs, 4097⟩ (n+1) 24 [.lst 2 (List.take m (List.replicate m [.cpx 0 0, .v (.bool false)])), .int .i64 0, .int .i64 1, .nils] = some (.tup [.cpx 0 0, .int .i64 1]) := by
  rw [take_rep]
  exact against_long (by rw [List.length_replicate]; exact hm)
theorem law6 : den ⟨fnOf, specAbs, 4097⟩ 60 6 [] = some (.v (.bool true)) := by
  obtain ⟨X, h1⟩ := @auto_rep 58 4096 (Nat.le_refl _)
  have h2 := @auto_rep_long 58 4097 (by decide)
  have h3 := @against_rep_long 58 65537 (by decide)
  have hd : denD ⟨fnOf, specAbs, 4097⟩ 59 6 [] [(some 11, .call (.tup [.own 1 X true, .int .i64 0])), (some 16, .call (.tup [.nils, .int .i64 1])), (some 21, .call (.tup [.cpx 0 0, .int .i64 1]))] =
      some (.v (.bool true), [.call 12 [.lst 1 (List.take 4096 (List.replicate 4096 [.int .i8 0]))] (.tup [.own 1 X true, .int .i64 0]), .st [1] [1], .le 4096 (List.replicate 4096 [AV.int .i8 0]).length,
        .call 12 [.lst 1 (List.take 4097 (List.replicate 4097 [.int .i8 0]))] (.tup [.nils, .int .i64 1]), .st [8] [8], .le 4097 (List.replicate 4097 [AV.int .i8 0]).length,
        .call 24 [.lst 2 (List.take 65537 (List.replicate 65537 [.cpx 0 0, .v (.bool false)])), .int .i64 0, .int .i64 1, .nils] (.tup [.cpx 0 0, .int .i64 1]), .st [15] [15], .le 65537 (List.replicate 65537 [AV.cpx 0 0, .v (.bool false)]).length]) := by kernel_rfl
  exact denD_sound hd ⟨call_den h1, st_same _, le_rep _ _, call_den h2, st_same _, le_rep _ _, call_den h3, st_same _, le_rep _ _, trivial⟩
theorem calls6 {avs : List AV} {W : World} {args : Array Value} (h : FitsVs Try.prog 8 Try.f6.params.toList avs) (hr : RelL (ρ0 fun _ => False) old0 W avs args.toList) :
    Calls Try.prog 6 args W fun e w' => e = .returned (.bool true) ∧ Below W.heap.size W w' := by
  have h : FitsVs Try.prog 8 [] avs := by rw [Try.params6] at h; exact h
  obtain rfl := fitsVs_nil h
  exact law (spec_abs 4097 fnOf) law6 hr
end Go.Proofs.Ytldkgfbgndkbdaa.Fw
namespace Go.Proofs.Ytldkgfbgndkbdaa
open Go.ChangeShapes Go.WideShapes Go.ChangeAt Go.RowKit Fw
theorem trainNames_lifted (os : Os) (started : os.Started) (H : Type) (enc : TypeId × Value → H) :
    ReturnsInHanded {} Try.checked os 6 .any (Rows.trainNamesSpec.pre6 enc Try.prog Try.f6 Rows.trainNamesRow.domain false) (Rows.trainNamesSpec.post enc Try.prog Try.f6 false true false false) := by
  refine law_lifted (C := Try.checked) (n := 8) (tb := 4) own started (by kernel_rfl) Try.func6
    (ChangeSpec.witness6 (enc := enc) (C := Try.checked) false ⟨#[], #[], []⟩ 8 (by kernel_rfl) (by kernel_rfl) (by kernel_rfl) (by kernel_rfl))
    laidOut (by kernel_rfl) (by kernel_rfl) rfl ?_ rfl Try.underlying4 fun _ _ _ h hr => calls6 h hr
  intro ds hd
  have hd : ds.length = 0 := hd
  obtain rfl := List.length_eq_zero_iff.1 hd
  rfl
theorem trainNames_holds : Rows.TrainNamesSaid :=
  OpenClaim.holds_of_wide 6 Try.f6 rfl rfl rfl rfl rfl rfl rfl ⟨rfl, rfl, rfl, rfl, rfl⟩ rfl rfl rfl rfl rfl (by kernel_rfl) Try.func6 (by kernel_rfl)
    (of_decide_eq_true (by kernel_rfl)) (by unfold Func.isWrapper; first | (rw [if_pos (by decide +kernel)]; kernel_rfl) | (rw [if_neg (by decide +kernel)]; exact ⟨rfl, rfl⟩))
    (fun os started H enc _ => trainNames_lifted os started H enc)
end Go.Proofs.Ytldkgfbgndkbdaa
