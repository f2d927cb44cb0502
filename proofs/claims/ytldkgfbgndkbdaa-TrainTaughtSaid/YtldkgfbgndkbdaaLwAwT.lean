/- train: what each law asks first (closed); spoken for beside Raw, Taps, Laid. -/
import Derived.Test.YtldkgfbgndkbdaaLwTkD
set_option maxRecDepth 100000
set_option maxHeartbeats 4000000
set_option linter.unusedSimpArgs false
set_option linter.unusedVariables false
namespace Go.Proofs.Ytldkgfbgndkbdaa.Fw
open Go Go.RowKit
theorem awake14 : den ⟨fnOf, specAbs, 300⟩ 20 10 [] = some (.v (.bool true)) := by kernel_rfl
def awSem : List AV → Option AV
  | [] => some (.v (.bool true))
  | _ => none
theorem awSem_is {avs : List AV} {x : AV} (h : awSem avs = some x) : avs = [] ∧ x = .v (.bool true) := by
  unfold awSem at h
  split at h
  · cases h; exact ⟨rfl, rfl⟩
  · cases h
def newAw : FuncId → Option (List AV → Option AV)
  | 10 => some awSem
  | _ => none
def specAw : FuncId → Option (List AV → Option AV) := fun f => match newAw f with | some g => some g | none => specAbs f
theorem spec_aw : SpecOk Try.prog ⟨fnOf, specAw, 0⟩ :=
  spec_addz (spec_abs 0 fnOf) (fun L => fnsOk _ _) follows newAw fun f g h => by
    unfold newAw at h
    split at h
    · cases h
      refine ⟨⟨_, Try.func10, ne_of_beq_false (by kernel_rfl), by kernel_rfl⟩, fun avs r h => ?_⟩
      obtain ⟨rfl, rfl⟩ := awSem_is h
      exact toldZ (P := ⟨fnOf, specAbs, 0⟩) awake14 (WkT.refl _)
    · cases h
/-- AreTaps, by its own answer -/
noncomputable def newAt : FuncId → Option (List AV → Option AV)
  | 35 => some (fun avs => den ⟨fnOf, specG, 65537⟩ 2 35 avs)
  | _ => none
noncomputable def specAt : FuncId → Option (List AV → Option AV) := fun f => match newAt f with | some g => some g | none => specG f
theorem spec_at : SpecOk Try.prog ⟨fnOf, specAt, 0⟩ :=
  spec_addz spec_g (fun L => fnsOk _ _) follows newAt fun f g h => by
    unfold newAt at h
    split at h
    · cases h
      refine ⟨⟨_, Try.func35, ne_of_beq_false (by kernel_rfl), by kernel_rfl⟩, fun avs r h => ?_⟩
      exact toldZ (P := ⟨fnOf, specG, 0⟩) h (WkT.refl _)
    · cases h
noncomputable def specU : FuncId → Option (List AV → Option AV) := fun f => match newAw f with | some g => some g | none => (fun f => match newY f with | some g => some g | none => (fun f => match newAt f with | some g => some g | none => specT f) f) f
theorem spec_u : SpecOk Try.prog ⟨fnOf, specU, 0⟩ := by
  intro f g h
  have h : (match newAw f with | some g => some g | none => (match newY f with | some g => some g | none => (match newAt f with | some g => some g | none => specT f))) = some g := h
  cases hq : newAw f with
  | some g' =>
    rw [hq] at h
    exact spec_aw f g (by show (match newAw f with | some g => some g | none => specAbs f) = some g; rw [hq]; exact h)
  | none =>
    rw [hq] at h
    have h : (match newY f with | some g => some g | none => (match newAt f with | some g => some g | none => specT f)) = some g := h
    cases hq : newY f with
    | some g' =>
      rw [hq] at h
      exact spec_y f g (by show (match newY f with | some g => some g | none => specR f) = some g; rw [hq]; exact h)
    | none =>
      rw [hq] at h
      have h : (match newAt f with | some g => some g | none => specT f) = some g := h
      cases hq : newAt f with
      | some g' =>
        rw [hq] at h
        exact spec_at f g (by show (match newAt f with | some g => some g | none => specG f) = some g; rw [hq]; exact h)
      | none => rw [hq] at h; exact spec_t f g h
theorem spec_uL (L : Nat) : SpecOk Try.prog ⟨fnOf, specU, L⟩ := fun f g h => spec_u f g h
end Go.Proofs.Ytldkgfbgndkbdaa.Fw
