/- PulseNamed: whatever the name and the rate, pulse.Named answers as the document does, in new memory. Conditions: none. -/
import Derived.Test.YtaklelfdcbgebaaLwNdD
set_option maxRecDepth 100000
set_option maxHeartbeats 4000000
set_option linter.unusedSimpArgs false
set_option linter.unusedVariables false
namespace Go.Proofs.Ytaklelfdcbgebaa.Fw
open Go Go.RowKit
/-- what the law is handed -/
theorem fits5 {avs : List AV} (h : FitsVs Try.prog 8 Try.f5.params.toList avs) : ∃ (x10 : ByteArray) (x15 : Int), avs = [AV.v (.string x10), AV.v (.int .i64 x15)] ∧ x10.size ≤ reachBytes ∧ (Lit.int .i64 x15).wf = true := by
  replace h : FitsVs Try.prog 8 [9, 3] avs := by rw [Try.params5] at h; exact h
  obtain ⟨a1, r2, rfl, h3, h⟩ := fitsVs_cons h
  obtain ⟨a4, r5, rfl, h6, h⟩ := fitsVs_cons h
  obtain rfl := fitsVs_nil h
  have h7 := fitsV_str Try.underlying9 h3
  obtain ⟨c8, h9⟩ : ∃ c, c = [a1] := ⟨_, rfl⟩
  rw [← h9] at h7
  obtain ⟨x10, rfl, w11⟩ := fits_str (n := 7) Try.underlying9 h7
  obtain rfl := one_inj h9
  have h12 := fitsV_int Try.underlying3 h6
  obtain ⟨c13, h14⟩ : ∃ c, c = [a4] := ⟨_, rfl⟩
  rw [← h14] at h12
  obtain ⟨x15, rfl, w16⟩ := fits_int (n := 7) Try.underlying3 h12
  obtain rfl := one_inj h14
  exact ⟨x10, x15, rfl, w11, w16⟩
theorem calls5 {avs : List AV} {W : World} {args : Array Value} (h : FitsVs Try.prog 8 Try.f5.params.toList avs) (hr : RelL (ρ0 fun _ => False) old0 W avs args.toList) :
    Calls Try.prog 5 args W fun e w' => e = .returned (.bool true) ∧ Below W.heap.size W w' := by
  obtain ⟨s, r, rfl, _, _⟩ := fits5 h
  exact law (spec_dL 300) (law_named s r) hr
end Go.Proofs.Ytaklelfdcbgebaa.Fw
namespace Go.Proofs.Ytaklelfdcbgebaa
open Go.ChangeShapes Go.WideShapes Go.ChangeAt Go.RowKit Fw
theorem pulseNamed_lifted (os : Os) (started : os.Started) (H : Type) (enc : TypeId × Value → H) :
    ReturnsInHanded {} Try.checked os 5 .any (Rows.pulseNamedSpec.pre6 enc Try.prog Try.f5 Rows.pulseNamedRow.domain false) (Rows.pulseNamedSpec.post enc Try.prog Try.f5 false true false false) := by
  refine law_lifted (C := Try.checked) (n := 8) (tb := 4) own started (by kernel_rfl) Try.func5
    (ChangeSpec.witness6 (enc := enc) (C := Try.checked) false ⟨#[], #[.string ⟨#[]⟩, .int .i64 0], []⟩ 8 (by kernel_rfl) (by kernel_rfl) (by kernel_rfl) (by kernel_rfl))
    laidOut (by kernel_rfl) (by kernel_rfl) rfl ?_ rfl Try.underlying4 fun _ _ _ h hr => calls5 h hr
  intro ds hd
  have hd : ds.length = 2 := hd
  rcases ds with _ | ⟨a, _ | ⟨b, _ | ⟨z, r⟩⟩⟩ <;> simp at hd
  rfl
theorem pulseNamed_holds : Rows.PulseNamedSaid :=
  OpenClaim.holds_of_wide 5 Try.f5 rfl rfl rfl rfl rfl rfl rfl ⟨rfl, rfl, rfl, rfl, rfl⟩ rfl rfl rfl rfl rfl (by kernel_rfl) Try.func5 (by kernel_rfl)
    (of_decide_eq_true (by kernel_rfl)) (by unfold Func.isWrapper; first | (rw [if_pos (by decide +kernel)]; kernel_rfl) | (rw [if_neg (by decide +kernel)]; exact ⟨rfl, rfl⟩))
    (fun os started H enc _ => pulseNamed_lifted os started H enc)
end Go.Proofs.Ytaklelfdcbgebaa
