/- GridNames: the numbers of the grid, its edge, the longest row that the door takes: it holds. -/
import Derived.Test.YtdflnngkdibdeaaLwDoor
set_option maxRecDepth 100000
set_option maxHeartbeats 4000000
set_option linter.unusedSimpArgs false
set_option linter.unusedVariables false
namespace Go.Proofs.Ytdflnngkdibdeaa.Fw
open Go Go.RowKit
theorem take_rep (m : Nat) (z : List AV) : List.take m (List.replicate m z) = List.replicate m z := List.take_of_length_le (Nat.le_of_eq List.length_replicate)
theorem le_rep {P : Prog} {C : Caller} (m : Nat) (z : List AV) : Con.holds P C (.le m (List.replicate m z).length) := Nat.le_of_eq List.length_replicate.symm
theorem st_same {P : Prog} {C : Caller} (st : List Nat) : Con.holds P C (.st st st) := rfl
theorem call_den {P : Prog} {n : Nat} {f : FuncId} {avs : List AV} {r : AV} (h : den P n f avs = some r) : Con.holds P (runF P n) (.call f avs r) := h
theorem door_rep {n : Nat} (m : Nat) (hm : m ≤ 65536) : ∃ X, den ⟨fnOf, specAbs, 65537⟩ (n+3) 9 [.lst 1 (List.take m (List.replicate m [.cpx 0 0]))] = some (.tup [.own 2 X true, .int .i64 0]) := by
  rw [take_rep]
  exact ⟨_, @door9 0 n (List.replicate m [.cpx 0 0]) (by rw [List.length_replicate]; exact hm) (fun e he => ⟨0, 0, List.eq_of_mem_replicate he⟩)⟩
theorem door_rep_long {n : Nat} (m : Nat) (hm : 65536 < m) : den ⟨fnOf, specAbs, 65537⟩ (n+3) 9 [.lst 1 (List.take m (List.replicate m [.cpx 0 0]))] = some (.tup [.nils, .int .i64 1]) := by
  rw [take_rep]
  exact @door9_long 0 n _ (by rw [List.length_replicate]; exact hm)
theorem law3 : den ⟨fnOf, specAbs, 65537⟩ 60 3 [] = some (.v (.bool true)) := by
  obtain ⟨X, h1⟩ := @door_rep 56 65536 (Nat.le_refl _)
  have h2 := @door_rep_long 56 65537 (by decide)
  have hd : denD ⟨fnOf, specAbs, 65537⟩ 59 3 [] [(some 26, .call (.tup [.own 2 X true, .int .i64 0])), (some 31, .call (.tup [.nils, .int .i64 1]))] =
      some (.v (.bool true), [.call 9 [.lst 1 (List.take 65536 (List.replicate 65536 [.cpx 0 0]))] (.tup [.own 2 X true, .int .i64 0]), .st [20] [20], .le 65536 (List.replicate 65536 [AV.cpx 0 0]).length,
        .call 9 [.lst 1 (List.take 65537 (List.replicate 65537 [.cpx 0 0]))] (.tup [.nils, .int .i64 1]), .st [27] [27], .le 65537 (List.replicate 65537 [AV.cpx 0 0]).length]) := by kernel_rfl
  exact denD_sound hd ⟨call_den h1, st_same _, le_rep _ _, call_den h2, st_same _, le_rep _ _, trivial⟩
theorem calls3 {avs : List AV} {W : World} {args : Array Value} (h : FitsVs Try.prog 8 Try.f3.params.toList avs) (hr : RelL (ρ0 fun _ => False) old0 W avs args.toList) :
    Calls Try.prog 3 args W fun e w' => e = .returned (.bool true) ∧ Below W.heap.size W w' := by
  have h : FitsVs Try.prog 8 [] avs := by rw [Try.params3] at h; exact h
  obtain rfl := fitsVs_nil h
  exact law (spec_abs 65537 fnOf) law3 hr
end Go.Proofs.Ytdflnngkdibdeaa.Fw
namespace Go.Proofs.Ytdflnngkdibdeaa
open Go.ChangeShapes Go.WideShapes Go.ChangeAt Go.RowKit Fw
theorem gridNames_lifted (os : Os) (started : os.Started) (H : Type) (enc : TypeId × Value → H) :
    ReturnsInHanded {} Try.checked os 3 .any (Rows.gridNamesSpec.pre6 enc Try.prog Try.f3 Rows.gridNamesRow.domain false) (Rows.gridNamesSpec.post enc Try.prog Try.f3 false true false false) := by
  refine law_lifted (C := Try.checked) (n := 8) (tb := 4) own started (by kernel_rfl) Try.func3
    (ChangeSpec.witness6 (enc := enc) (C := Try.checked) false ⟨#[], #[], []⟩ 8 (by kernel_rfl) (by kernel_rfl) (by kernel_rfl) (by kernel_rfl))
    laidOut (by kernel_rfl) (by kernel_rfl) rfl ?_ rfl Try.underlying4 fun _ _ _ h hr => calls3 h hr
  intro ds hd
  have hd : ds.length = 0 := hd
  obtain rfl := List.length_eq_zero_iff.1 hd
  rfl
theorem gridNames_holds : Rows.GridNamesSaid :=
  OpenClaim.holds_of_wide 3 Try.f3 rfl rfl rfl rfl rfl rfl rfl ⟨rfl, rfl, rfl, rfl, rfl⟩ rfl rfl rfl rfl rfl (by kernel_rfl) Try.func3 (by kernel_rfl)
    (of_decide_eq_true (by kernel_rfl)) (by unfold Func.isWrapper; first | (rw [if_pos (by decide +kernel)]; kernel_rfl) | (rw [if_neg (by decide +kernel)]; exact ⟨rfl, rfl⟩))
    (fun os started H enc _ => gridNames_lifted os started H enc)
end Go.Proofs.Ytdflnngkdibdeaa
