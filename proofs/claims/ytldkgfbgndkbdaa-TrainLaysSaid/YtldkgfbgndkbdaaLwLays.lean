/- TrainLays: whatever the plan, train.Length and train.Laid answer as the document does, or refuse as it does; the answer is new memory. Conditions: none. -/
import Derived.Test.YtldkgfbgndkbdaaLwTlF
set_option maxRecDepth 100000
set_option maxHeartbeats 4000000
set_option linter.unusedSimpArgs false
set_option linter.unusedVariables false
namespace Go.Proofs.Ytldkgfbgndkbdaa.Fw
open Go Go.RowKit
/-- what the law is handed -/
theorem fits4 {avs : List AV} (h : FitsVs Try.prog 8 Try.f4.params.toList avs) : ∃ (x20 : Int) (x22 : Int) (x24 : Int), avs = [AV.agg [AV.v (.int .i64 x20), AV.v (.int .i64 x22), AV.v (.int .i64 x24)]] ∧ (Lit.int .i64 x20).wf = true ∧ (Lit.int .i64 x22).wf = true ∧ (Lit.int .i64 x24).wf = true := by
  replace h : FitsVs Try.prog 8 [33] avs := by rw [Try.params4] at h; exact h
  obtain ⟨a1, r2, rfl, h3, h⟩ := fitsVs_cons h
  obtain rfl := fitsVs_nil h
  obtain ⟨c4, rfl, h5⟩ := fitsV_struct Try.underlying33 h3
  obtain ⟨p6, rfl, h7⟩ := fits_struct (n := 7) Try.underlying33 h5
  replace h7 : FitsEach (Fits Try.prog 7) [3, 3, 3] p6 := h7
  obtain ⟨p8, r9, rfl, h10, h11⟩ := fitsEach_cons h7
  obtain ⟨p12, r13, rfl, h14, h15⟩ := fitsEach_cons h11
  obtain ⟨p16, r17, rfl, h18, h19⟩ := fitsEach_cons h15
  obtain rfl := fitsEach_nil h19
  obtain ⟨x20, rfl, w21⟩ := fits_int (n := 6) Try.underlying3 h10
  obtain ⟨x22, rfl, w23⟩ := fits_int (n := 6) Try.underlying3 h14
  obtain ⟨x24, rfl, w25⟩ := fits_int (n := 6) Try.underlying3 h18
  exact ⟨x20, x22, x24, rfl, w21, w23, w25⟩
theorem calls4 {avs : List AV} {W : World} {args : Array Value} (h : FitsVs Try.prog 8 Try.f4.params.toList avs) (hr : RelL (ρ0 fun _ => False) old0 W avs args.toList) :
    Calls Try.prog 4 args W fun e w' => e = .returned (.bool true) ∧ Below W.heap.size W w' := by
  obtain ⟨o, r, g, rfl, hx⟩ := fits4 h
  exact law (spec_yL 12301) (@law_lays 12300 0 o r g (Nat.le_refl _)) hr
end Go.Proofs.Ytldkgfbgndkbdaa.Fw
namespace Go.Proofs.Ytldkgfbgndkbdaa
open Go.ChangeShapes Go.WideShapes Go.ChangeAt Go.RowKit Fw
theorem trainLays_lifted (os : Os) (started : os.Started) (H : Type) (enc : TypeId × Value → H) :
    ReturnsInHanded {} Try.checked os 4 .any (Rows.trainLaysSpec.pre6 enc Try.prog Try.f4 Rows.trainLaysRow.domain false) (Rows.trainLaysSpec.post enc Try.prog Try.f4 false true false false) := by
  refine law_lifted (C := Try.checked) (n := 8) (tb := 4) own started (by kernel_rfl) Try.func4
    (ChangeSpec.witness6 (enc := enc) (C := Try.checked) false ⟨#[], #[.agg #[.int .i64 0, .int .i64 0, .int .i64 0]], []⟩ 8 (by kernel_rfl) (by kernel_rfl) (by kernel_rfl) (by kernel_rfl))
    laidOut (by kernel_rfl) (by kernel_rfl) rfl ?_ rfl Try.underlying4 fun _ _ _ h hr => calls4 h hr
  intro ds hd
  have hd : ds.length = 1 := hd
  rcases ds with _ | ⟨a, _ | ⟨z, r⟩⟩ <;> simp at hd
  rfl
theorem trainLays_holds : Rows.TrainLaysSaid :=
  OpenClaim.holds_of_wide 4 Try.f4 rfl rfl rfl rfl rfl rfl rfl ⟨rfl, rfl, rfl, rfl, rfl⟩ rfl rfl rfl rfl rfl (by kernel_rfl) Try.func4 (by kernel_rfl)
    (of_decide_eq_true (by kernel_rfl)) (by unfold Func.isWrapper; first | (rw [if_pos (by decide +kernel)]; kernel_rfl) | (rw [if_neg (by decide +kernel)]; exact ⟨rfl, rfl⟩))
    (fun os started H enc _ => trainLays_lifted os started H enc)
end Go.Proofs.Ytldkgfbgndkbdaa
