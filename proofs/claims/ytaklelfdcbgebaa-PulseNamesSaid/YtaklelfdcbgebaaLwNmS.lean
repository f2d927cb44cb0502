/- pulse: Named spoken for beside the rest. -/
import Derived.Test.YtaklelfdcbgebaaLwFpC
set_option maxRecDepth 100000
set_option maxHeartbeats 4000000
set_option linter.unusedSimpArgs false
set_option linter.unusedVariables false
namespace Go.Proofs.Ytaklelfdcbgebaa.Fw
open Go Go.RowKit
noncomputable def specD : FuncId → Option (List AV → Option AV) := fun f => match newNm f with | some g => some g | none => specB f
theorem spec_d : SpecOk Try.prog ⟨fnOf, specD, 0⟩ := by
  intro f g h
  have h : (match newNm f with | some g => some g | none => specB f) = some g := h
  cases hq : newNm f with
  | some g' =>
    rw [hq] at h
    exact spec_nm f g (by show (match newNm f with | some g => some g | none => specAbs f) = some g; rw [hq]; exact h)
  | none => rw [hq] at h; exact spec_b f g h
theorem spec_dL (L : Nat) : SpecOk Try.prog ⟨fnOf, specD, L⟩ := fun f g h => spec_d f g h
end Go.Proofs.Ytaklelfdcbgebaa.Fw
