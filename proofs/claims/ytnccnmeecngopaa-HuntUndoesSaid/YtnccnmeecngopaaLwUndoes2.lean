/- HuntUndoes, the law: whatever the number, the size and the quarters, hunt.Undo and the document's answer are the same; it holds at every input. -/
import Derived.Test.YtnccnmeecngopaaLwUndoes
import Derived.Test.YtnccnmeecngopaaFwDx
import Derived.KernelRfl
set_option maxRecDepth 100000
set_option maxHeartbeats 4000000
set_option linter.unusedSimpArgs false
set_option linter.unusedVariables false
namespace Go.Proofs.Ytnccnmeecngopaa.Fw
open Go Go.RowKit
section
variable {L n : Nat}
theorem samples15 {re im which : Int} {lost : Bool} {odd : Nat} : ∃ A B, den ⟨fnOf, specAbs, L+5⟩ (n+1) 15 [.lst 5 [[.int .i64 re, .int .i64 im, .v (.bool lost), .flt odd, .int .u8 which]]] =
    some (.own 2 [[.cpx A B, .v (.bool lost)]] true) := by
  by_cases h1 : which = 1
  · subst h1
    exact ⟨odd, fdiv (fofInt im) 4661225614328463360, by kernel_rfl⟩
  by_cases h2 : which = 2
  · subst h2
    exact ⟨fdiv (fofInt re) 4661225614328463360, odd, by kernel_rfl⟩
  by_cases h3 : which = 3
  · subst h3
    exact ⟨odd, odd, by kernel_rfl⟩
  have hd : denD ⟨fnOf, specAbs, L+5⟩ n 15 [.lst 5 [[.int .i64 re, .int .i64 im, .v (.bool lost), .flt odd, .int .u8 which]]] [(some 32, .b false),(some 39, .b false), (some 51, .b false),(some 58, .b false)] =
    some (.own 2 [[.cpx (fdiv (fofInt re) 4661225614328463360) (fdiv (fofInt im) 4661225614328463360), .v (.bool lost)]] true, [.b (which == 1) false, .b (which == 3) false, .b (which == 2) false, .b (which == 3) false]) := by kernel_rfl
  exact ⟨_, _, denD_sound hd (by simp [Holds, Con.holds, h1, h2, h3])⟩
theorem undoA_form (a b size : Nat) (q : Int) : ∃ X Y e, undoA a b size q = .tup [.cpx X Y, .int .i64 e] := by
  unfold undoA
  split
  · exact ⟨_, _, _, rfl⟩
  split
  · exact ⟨_, _, _, rfl⟩
  split <;> exact ⟨_, _, _, rfl⟩
theorem law4 {re im which q : Int} {lost : Bool} {odd size : Nat} : den ⟨fnOf, specAbs, L+5⟩ (n+2) 4 [.agg [.int .i64 re, .int .i64 im, .v (.bool lost), .flt odd, .int .u8 which], .flt size, .int .i64 q] = some (.v (.bool true)) := by
  obtain ⟨A, B, h15⟩ := @samples15 L n re im which lost odd
  obtain ⟨X, Y, e, hu⟩ := undoA_form A B size q
  have h16 := @undo16 L n A B size 0 q
  have h17 := @undo17 L n A B size 0 q
  rw [hu] at h16 h17
  have h18 := @alike18 L n X X
  have h18' := @alike18 L n Y Y
  rw [alikeF_self] at h18 h18'
  have hd : denD ⟨fnOf, specAbs, L+5⟩ (n+1) 4 [.agg [.int .i64 re, .int .i64 im, .v (.bool lost), .flt odd, .int .u8 which], .flt size, .int .i64 q]
      [(some 15, .call (.own 2 [[.cpx A B, .v (.bool lost)]] true)), (some 25, .call (.tup [.cpx X Y, .int .i64 e])), (some 31, .call (.tup [.cpx X Y, .int .i64 e])), (some 38, .call (.v (.bool true))), (some 44, .call (.v (.bool true)))] =
    some (.v (.bool (e == e)), [.call 15 [.lst 5 [[.int .i64 re, .int .i64 im, .v (.bool lost), .flt odd, .int .u8 which]]] (.own 2 [[.cpx A B, .v (.bool lost)]] true),
      .call 16 [.cpx A B, .agg [.int .i64 0, .flt size, .int .i64 q]] (.tup [.cpx X Y, .int .i64 e]), .call 17 [.cpx A B, .agg [.int .i64 0, .flt size, .int .i64 q]] (.tup [.cpx X Y, .int .i64 e]),
      .call 18 [.flt X, .flt X] (.v (.bool true)), .call 18 [.flt Y, .flt Y] (.v (.bool true))]) := by kernel_rfl
  have := denD_sound hd (by simp only [Holds, Con.holds, valC_den]; exact ⟨h15, h16, h17, h18, h18', trivial⟩)
  rw [this]
  simp
end

/-- what the law is handed -/
theorem fits4 {avs : List AV} (h : FitsVs Try.prog 8 Try.f4.params.toList avs) : ∃ (x34 : Int) (x36 : Int) (x38 : Bool) (x39 : Nat) (x41 : Int) (x46 : Nat) (x51 : Int), avs = [AV.agg [AV.v (.int .i64 x34), AV.v (.int .i64 x36), AV.v (.bool x38), AV.flt (canon x39), AV.v (.int .u8 x41)], AV.flt (canon x46), AV.v (.int .i64 x51)] ∧ (Lit.int .i64 x34).wf = true ∧ (Lit.int .i64 x36).wf = true ∧ x39 < 2 ^ 64 ∧ (Lit.int .u8 x41).wf = true ∧ x46 < 2 ^ 64 ∧ (Lit.int .i64 x51).wf = true := by
  replace h : FitsVs Try.prog 8 [33, 31, 3] avs := by rw [Try.params4] at h; exact h
  obtain ⟨a1, r2, rfl, h3, h⟩ := fitsVs_cons h
  obtain ⟨a4, r5, rfl, h6, h⟩ := fitsVs_cons h
  obtain ⟨a7, r8, rfl, h9, h⟩ := fitsVs_cons h
  obtain rfl := fitsVs_nil h
  obtain ⟨c10, rfl, h11⟩ := fitsV_struct Try.underlying33 h3
  obtain ⟨p12, rfl, h13⟩ := fits_struct (n := 7) Try.underlying33 h11
  replace h13 : FitsEach (Fits Try.prog 7) [3, 3, 4, 31, 5] p12 := h13
  obtain ⟨p14, r15, rfl, h16, h17⟩ := fitsEach_cons h13
  obtain ⟨p18, r19, rfl, h20, h21⟩ := fitsEach_cons h17
  obtain ⟨p22, r23, rfl, h24, h25⟩ := fitsEach_cons h21
  obtain ⟨p26, r27, rfl, h28, h29⟩ := fitsEach_cons h25
  obtain ⟨p30, r31, rfl, h32, h33⟩ := fitsEach_cons h29
  obtain rfl := fitsEach_nil h33
  obtain ⟨x34, rfl, w35⟩ := fits_int (n := 6) Try.underlying3 h16
  obtain ⟨x36, rfl, w37⟩ := fits_int (n := 6) Try.underlying3 h20
  obtain ⟨x38, rfl⟩ := fits_bool (n := 6) Try.underlying4 h24
  obtain ⟨x39, rfl, w40⟩ := fits_flt (n := 6) Try.underlying31 h28
  obtain ⟨x41, rfl, w42⟩ := fits_int (n := 6) Try.underlying5 h32
  have h43 := fitsV_flt Try.underlying31 h6
  obtain ⟨c44, h45⟩ : ∃ c, c = [a4] := ⟨_, rfl⟩
  rw [← h45] at h43
  obtain ⟨x46, rfl, w47⟩ := fits_flt (n := 7) Try.underlying31 h43
  obtain rfl := one_inj h45
  have h48 := fitsV_int Try.underlying3 h9
  obtain ⟨c49, h50⟩ : ∃ c, c = [a7] := ⟨_, rfl⟩
  rw [← h50] at h48
  obtain ⟨x51, rfl, w52⟩ := fits_int (n := 7) Try.underlying3 h48
  obtain rfl := one_inj h50
  exact ⟨x34, x36, x38, x39, x41, x46, x51, rfl, w35, w37, w40, w42, w47, w52⟩

theorem calls4 {avs : List AV} {W : World} {args : Array Value} (h : FitsVs Try.prog 8 Try.f4.params.toList avs) (hr : RelL (ρ0 fun _ => False) old0 W avs args.toList) :
    Calls Try.prog 4 args W fun e w' => e = .returned (.bool true) ∧ Below W.heap.size W w' := by
  obtain ⟨re, im, lost, odd, which, size, q, rfl, _⟩ := fits4 h
  exact law (spec_abs 5 fnOf) (law4 (L := 0) (n := 0)) hr
end Go.Proofs.Ytnccnmeecngopaa.Fw
namespace Go.Proofs.Ytnccnmeecngopaa
open Go.ChangeShapes Go.WideShapes Go.ChangeAt Go.RowKit Fw
theorem undoes_lifted (os : Os) (started : os.Started) (H : Type) (enc : TypeId × Value → H) :
    ReturnsInHanded {} Try.checked os 4 .any (Rows.huntUndoesSpec.pre6 enc Try.prog Try.f4 Rows.huntUndoesRow.domain false) (Rows.huntUndoesSpec.post enc Try.prog Try.f4 false true false false) := by
  refine law_lifted (C := Try.checked) (n := 8) (tb := 4) own started (by kernel_rfl) Try.func4
    (ChangeSpec.witness6 (enc := enc) (C := Try.checked) false ⟨#[], #[.agg #[.int .i64 0, .int .i64 0, .bool false, .float .f64 0, .int .u8 0], .float .f64 0, .int .i64 0], []⟩ 8 (by kernel_rfl) (by kernel_rfl) (by kernel_rfl) (by kernel_rfl))
    laidOut (by kernel_rfl) (by kernel_rfl) rfl ?_ rfl Try.underlying4 fun _ _ _ h hr => calls4 h hr
  intro ds hd
  have hd : ds.length = 3 := hd
  rcases ds with _ | ⟨a, _ | ⟨b, _ | ⟨c, _ | ⟨d, r⟩⟩⟩⟩ <;> simp at hd
  rfl
theorem undoes_holds : Rows.HuntUndoesSaid :=
  OpenClaim.holds_of_wide 4 Try.f4 rfl rfl rfl rfl rfl rfl rfl ⟨rfl, rfl, rfl, rfl, rfl⟩ rfl rfl rfl rfl rfl (by kernel_rfl) Try.func4 (by kernel_rfl)
    (of_decide_eq_true (by kernel_rfl)) (by unfold Func.isWrapper; first | (rw [if_pos (by decide +kernel)]; kernel_rfl) | (rw [if_neg (by decide +kernel)]; exact ⟨rfl, rfl⟩))
    (fun os started H enc _ => undoes_lifted os started H enc)
end Go.Proofs.Ytnccnmeecngopaa
