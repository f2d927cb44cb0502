/- PulseNames: the limits and names of pulse are as chapter 7 says (closed). Conditions: none. -/
import Derived.Test.YtaklelfdcbgebaaLwPNmC
set_option maxRecDepth 100000
set_option maxHeartbeats 4000000
set_option linter.unusedSimpArgs false
set_option linter.unusedVariables false
namespace Go.Proofs.Ytaklelfdcbgebaa.Fw
open Go Go.RowKit
/-- what the law is handed -/
theorem fits7 {avs : List AV} (h : FitsVs Try.prog 8 Try.f7.params.toList avs) : avs = [] := by
  replace h : FitsVs Try.prog 8 [] avs := by rw [Try.params7] at h; exact h
  obtain rfl := fitsVs_nil h
  rfl
theorem calls7 {avs : List AV} {W : World} {args : Array Value} (h : FitsVs Try.prog 8 Try.f7.params.toList avs) (hr : RelL (ρ0 fun _ => False) old0 W avs args.toList) :
    Calls Try.prog 7 args W fun e w' => e = .returned (.bool true) ∧ Below W.heap.size W w' := by
  obtain rfl := fits7 h
  exact law (spec_dL 300) law_names hr
end Go.Proofs.Ytaklelfdcbgebaa.Fw
namespace Go.Proofs.Ytaklelfdcbgebaa
open Go.ChangeShapes Go.WideShapes Go.ChangeAt Go.RowKit Fw
theorem pulseNames_lifted (os : Os) (started : os.Started) (H : Type) (enc : TypeId × Value → H) :
    ReturnsInHanded {} Try.checked os 7 .any (Rows.pulseNamesSpec.pre6 enc Try.prog Try.f7 Rows.pulseNamesRow.domain false) (Rows.pulseNamesSpec.post enc Try.prog Try.f7 false true false false) := by
  refine law_lifted (C := Try.checked) (n := 8) (tb := 4) own started (by kernel_rfl) Try.func7
    (ChangeSpec.witness6 (enc := enc) (C := Try.checked) false ⟨#[], #[], []⟩ 8 (by kernel_rfl) (by kernel_rfl) (by kernel_rfl) (by kernel_rfl))
    laidOut (by kernel_rfl) (by kernel_rfl) rfl ?_ rfl Try.underlying4 fun _ _ _ h hr => calls7 h hr
  intro ds hd
  have hd : ds.length = 0 := hd
  obtain rfl := List.length_eq_zero_iff.1 hd
  rfl
theorem pulseNames_holds : Rows.PulseNamesSaid :=
  OpenClaim.holds_of_wide 7 Try.f7 rfl rfl rfl rfl rfl rfl rfl ⟨rfl, rfl, rfl, rfl, rfl⟩ rfl rfl rfl rfl rfl (by kernel_rfl) Try.func7 (by kernel_rfl)
    (of_decide_eq_true (by kernel_rfl)) (by unfold Func.isWrapper; first | (rw [if_pos (by decide +kernel)]; kernel_rfl) | (rw [if_neg (by decide +kernel)]; exact ⟨rfl, rfl⟩))
    (fun os started H enc _ => pulseNames_lifted os started H enc)
end Go.Proofs.Ytaklelfdcbgebaa
