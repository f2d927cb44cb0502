/- pulse: what is spoken for in the laws that ask no document: works, Shape, Check, Length, Turned, Stretch. -/
import Derived.Test.YtaklelfdcbgebaaLwWk
import Derived.Test.YtaklelfdcbgebaaLwSpD
import Derived.Test.YtaklelfdcbgebaaLwChD
set_option maxRecDepth 100000
set_option maxHeartbeats 4000000
set_option linter.unusedSimpArgs false
set_option linter.unusedVariables false
namespace Go.Proofs.Ytaklelfdcbgebaa.Fw
open Go Go.RowKit
/-- Shape, by its own answer -/
noncomputable def newShp : FuncId → Option (List AV → Option AV)
  | 18 => some (fun avs => den ⟨fnOf, specL, 65537⟩ 1 18 avs)
  | 15 => some (fun avs => den ⟨fnOf, specL, 65537⟩ 1 15 avs)
  | _ => none
noncomputable def specShp : FuncId → Option (List AV → Option AV) := fun f => match newShp f with | some g => some g | none => specL f
theorem spec_shp : SpecOk Try.prog ⟨fnOf, specShp, 0⟩ :=
  spec_addz spec_l (fun L => fnsOk _ _) follows newShp fun f g h => by
    unfold newShp at h
    split at h
    · cases h
      refine ⟨⟨_, Try.func18, ne_of_beq_false (by kernel_rfl), by kernel_rfl⟩, fun avs r h => ?_⟩
      exact toldZ (P := ⟨fnOf, specL, 0⟩) h (WkT.refl _)
    · cases h
      refine ⟨⟨_, Try.func15, ne_of_beq_false (by kernel_rfl), by kernel_rfl⟩, fun avs r h => ?_⟩
      exact toldZ (P := ⟨fnOf, specL, 0⟩) h (WkT.refl _)
    · cases h
noncomputable def specB : FuncId → Option (List AV → Option AV) := fun f => match newWk f with | some g => some g | none => (fun f => match newShp f with | some g => some g | none => specT f) f
theorem spec_b : SpecOk Try.prog ⟨fnOf, specB, 0⟩ := by
  intro f g h
  have h : (match newWk f with | some g => some g | none => (match newShp f with | some g => some g | none => specT f)) = some g := h
  cases hq : newWk f with
  | some g' =>
    rw [hq] at h
    exact spec_wk f g (by show (match newWk f with | some g => some g | none => specNm f) = some g; rw [hq]; exact h)
  | none =>
    rw [hq] at h
    have h : (match newShp f with | some g => some g | none => specT f) = some g := h
    cases hq : newShp f with
    | some g' =>
      rw [hq] at h
      exact spec_shp f g (by show (match newShp f with | some g => some g | none => specL f) = some g; rw [hq]; exact h)
    | none => rw [hq] at h; exact spec_t f g h
end Go.Proofs.Ytaklelfdcbgebaa.Fw
