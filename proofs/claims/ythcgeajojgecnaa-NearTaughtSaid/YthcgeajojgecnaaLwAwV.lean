/- NearTaught: what is spoken for: awake, Laid, Taps, the grid. -/
import Derived.Test.YthcgeajojgecnaaLwTtE
set_option maxRecDepth 100000
set_option maxHeartbeats 4000000
set_option linter.unusedSimpArgs false
set_option linter.unusedVariables false
namespace Go.Proofs.Ythcgeajojgecnaa.Fw
open Go Go.RowKit
theorem awake15v : den ⟨fnOf, specAbs, 300⟩ 20 51 [] = some (.v (.bool true)) := by kernel_rfl
def newAwV : FuncId → Option (List AV → Option AV)
  | 51 => some awSem
  | _ => none
def specAwV : FuncId → Option (List AV → Option AV) := fun f => match newAwV f with | some g => some g | none => specAbs f
theorem spec_awv : SpecOk Try.prog ⟨fnOf, specAwV, 0⟩ :=
  spec_addz (spec_abs 0 fnOf) (fun L => fnsOk _ _) follows newAwV fun f g h => by
    unfold newAwV at h
    split at h
    · cases h
      refine ⟨⟨_, Try.func51, ne_of_beq_false (by kernel_rfl), by kernel_rfl⟩, fun avs r h => ?_⟩
      obtain ⟨rfl, rfl⟩ := awSem_is h
      exact toldZ (P := ⟨fnOf, specAbs, 0⟩) awake15v (WkT.refl _)
    · cases h
noncomputable def specN : FuncId → Option (List AV → Option AV) := fun f => match newAwV f with | some g => some g | none => (fun f => match newY f with | some g => some g | none => specT f) f
theorem spec_n : SpecOk Try.prog ⟨fnOf, specN, 0⟩ := by
  intro f g h
  have h : (match newAwV f with | some g => some g | none => (match newY f with | some g => some g | none => specT f)) = some g := h
  cases hq : newAwV f with
  | some g' =>
    rw [hq] at h
    exact spec_awv f g (by show (match newAwV f with | some g => some g | none => specAbs f) = some g; rw [hq]; exact h)
  | none =>
    rw [hq] at h
    have h : (match newY f with | some g => some g | none => specT f) = some g := h
    cases hq : newY f with
    | some g' =>
      rw [hq] at h
      exact spec_y f g (by show (match newY f with | some g => some g | none => specR f) = some g; rw [hq]; exact h)
    | none => rw [hq] at h; exact spec_t f g h
theorem spec_nL (L : Nat) : SpecOk Try.prog ⟨fnOf, specN, L⟩ := fun f g h => spec_n f g h
end Go.Proofs.Ythcgeajojgecnaa.Fw
