/- near: what each law asks first (closed); spoken for beside all that train's Taps asks. -/
import Derived.Test.YthcgeajojgecnaaLwTkD
set_option maxRecDepth 100000
set_option maxHeartbeats 4000000
set_option linter.unusedSimpArgs false
set_option linter.unusedVariables false
namespace Go.Proofs.Ythcgeajojgecnaa.Fw
open Go Go.RowKit
theorem awake15 : den ⟨fnOf, specAbs, 300⟩ 20 51 [] = some (.v (.bool true)) := by kernel_rfl
def awSem : List AV → Option AV
  | [] => some (.v (.bool true))
  | _ => none
theorem awSem_is {avs : List AV} {x : AV} (h : awSem avs = some x) : avs = [] ∧ x = .v (.bool true) := by
  unfold awSem at h
  split at h
  · cases h; exact ⟨rfl, rfl⟩
  · cases h
def newAw : FuncId → Option (List AV → Option AV)
  | 51 => some awSem
  | _ => none
def specAw : FuncId → Option (List AV → Option AV) := fun f => match newAw f with | some g => some g | none => specAbs f
theorem spec_aw : SpecOk Try.prog ⟨fnOf, specAw, 0⟩ :=
  spec_addz (spec_abs 0 fnOf) (fun L => fnsOk _ _) follows newAw fun f g h => by
    unfold newAw at h
    split at h
    · cases h
      refine ⟨⟨_, Try.func51, ne_of_beq_false (by kernel_rfl), by kernel_rfl⟩, fun avs r h => ?_⟩
      obtain ⟨rfl, rfl⟩ := awSem_is h
      exact toldZ (P := ⟨fnOf, specAbs, 0⟩) awake15 (WkT.refl _)
    · cases h
noncomputable def specX : FuncId → Option (List AV → Option AV) := fun f => match newAw f with | some g => some g | none => specT f
theorem spec_x : SpecOk Try.prog ⟨fnOf, specX, 0⟩ := by
  intro f g h
  have h : (match newAw f with | some g => some g | none => specT f) = some g := h
  cases hq : newAw f with
  | some g' =>
    rw [hq] at h
    exact spec_aw f g (by show (match newAw f with | some g => some g | none => specAbs f) = some g; rw [hq]; exact h)
  | none => rw [hq] at h; exact spec_t f g h
theorem spec_xL (L : Nat) : SpecOk Try.prog ⟨fnOf, specX, L⟩ := fun f g h => spec_x f g h
end Go.Proofs.Ythcgeajojgecnaa.Fw
