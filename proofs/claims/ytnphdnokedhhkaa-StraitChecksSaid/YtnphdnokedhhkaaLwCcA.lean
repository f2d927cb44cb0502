/- First, made, same: spoken for by their own answers. -/
import Derived.Test.YtnphdnokedhhkaaLwTuC
import Derived.Test.YtnphdnokedhhkaaLwJnD
set_option maxRecDepth 100000
set_option maxHeartbeats 4000000
set_option linter.unusedSimpArgs false
set_option linter.unusedVariables false
namespace Go.Proofs.Ytnphdnokedhhkaa.Fw
open Go Go.RowKit
def newS : FuncId → Option (List AV → Option AV)
  | 24 => some (fun avs => den ⟨fnOf, specR, 20000000000001⟩ 1 24 avs)
  | 25 => some (fun avs => den ⟨fnOf, specR, 20000000000001⟩ 1 25 avs)
  | 13 => some (fun avs => den ⟨fnOf, specK, 20000000000001⟩ 2 13 avs)
  | 16 => some (fun avs => den ⟨fnOf, specK, 20000000000001⟩ 2 16 avs)
  | 26 => some (fun avs => den ⟨fnOf, specZ, 20000000000001⟩ 2 26 avs)
  | 27 => some (fun avs => den ⟨fnOf, specZ, 20000000000001⟩ 2 27 avs)
  | 28 => some (fun avs => den ⟨fnOf, specZ, 20000000000001⟩ 2 28 avs)
  | 29 => some (fun avs => den ⟨fnOf, specZ, 20000000000001⟩ 2 29 avs)
  | _ => none
def new1 : FuncId → Option (List AV → Option AV)
  | 24 => some (fun avs => den ⟨fnOf, specR, 20000000000001⟩ 1 24 avs)
  | 25 => some (fun avs => den ⟨fnOf, specR, 20000000000001⟩ 1 25 avs)
  | _ => none
def new2 : FuncId → Option (List AV → Option AV)
  | 13 => some (fun avs => den ⟨fnOf, specK, 20000000000001⟩ 2 13 avs)
  | 16 => some (fun avs => den ⟨fnOf, specK, 20000000000001⟩ 2 16 avs)
  | _ => none
def new3 : FuncId → Option (List AV → Option AV)
  | 26 => some (fun avs => den ⟨fnOf, specZ, 20000000000001⟩ 2 26 avs)
  | 27 => some (fun avs => den ⟨fnOf, specZ, 20000000000001⟩ 2 27 avs)
  | 28 => some (fun avs => den ⟨fnOf, specZ, 20000000000001⟩ 2 28 avs)
  | 29 => some (fun avs => den ⟨fnOf, specZ, 20000000000001⟩ 2 29 avs)
  | _ => none
theorem spec_s1 : SpecOk Try.prog ⟨fnOf, fun f => match new1 f with | some g => some g | none => specR f, 0⟩ :=
  spec_adds spec_r (fun L => fnsOk _ _) follows new1 fun f g h => by
    unfold new1 at h
    split at h
    · cases h
      exact ⟨⟨_, Try.func24, ne_of_beq_false (by kernel_rfl), by kernel_rfl⟩, fun avs r h => toldZ (P := ⟨fnOf, specR, 0⟩) h (WkT.refl _)⟩
    · cases h
      exact ⟨⟨_, Try.func25, ne_of_beq_false (by kernel_rfl), by kernel_rfl⟩, fun avs r h => toldZ (P := ⟨fnOf, specR, 0⟩) h (WkT.refl _)⟩
    · cases h
theorem spec_s2 : SpecOk Try.prog ⟨fnOf, fun f => match new2 f with | some g => some g | none => specK f, 0⟩ :=
  spec_adds spec_k (fun L => fnsOk _ _) follows new2 fun f g h => by
    unfold new2 at h
    split at h
    · cases h
      exact ⟨⟨_, Try.func13, ne_of_beq_false (by kernel_rfl), by kernel_rfl⟩, fun avs r h => toldZ (P := ⟨fnOf, specK, 0⟩) h (WkT.refl _)⟩
    · cases h
      exact ⟨⟨_, Try.func16, ne_of_beq_false (by kernel_rfl), by kernel_rfl⟩, fun avs r h => toldZ (P := ⟨fnOf, specK, 0⟩) h (WkT.refl _)⟩
    · cases h
theorem spec_s3 : SpecOk Try.prog ⟨fnOf, fun f => match new3 f with | some g => some g | none => specZ f, 0⟩ :=
  spec_adds spec_z (fun L => fnsOk _ _) follows new3 fun f g h => by
    unfold new3 at h
    split at h
    · cases h
      exact ⟨⟨_, Try.func26, ne_of_beq_false (by kernel_rfl), by kernel_rfl⟩, fun avs r h => toldZ (P := ⟨fnOf, specZ, 0⟩) h (WkT.refl _)⟩
    · cases h
      exact ⟨⟨_, Try.func27, ne_of_beq_false (by kernel_rfl), by kernel_rfl⟩, fun avs r h => toldZ (P := ⟨fnOf, specZ, 0⟩) h (WkT.refl _)⟩
    · cases h
      exact ⟨⟨_, Try.func28, ne_of_beq_false (by kernel_rfl), by kernel_rfl⟩, fun avs r h => toldZ (P := ⟨fnOf, specZ, 0⟩) h (WkT.refl _)⟩
    · cases h
      exact ⟨⟨_, Try.func29, ne_of_beq_false (by kernel_rfl), by kernel_rfl⟩, fun avs r h => toldZ (P := ⟨fnOf, specZ, 0⟩) h (WkT.refl _)⟩
    · cases h
def specS : FuncId → Option (List AV → Option AV) := fun f => match newS f with | some g => some g | none => specZ f
theorem spec_s : SpecOk Try.prog ⟨fnOf, specS, 0⟩ := by
  intro f g h
  have h : (match newS f with | some g => some g | none => specZ f) = some g := h
  unfold newS at h
  split at h
  · rename_i g' hq
    split at hq
    · cases hq; cases h; exact spec_s1 24 _ rfl
    · cases hq; cases h; exact spec_s1 25 _ rfl
    · cases hq; cases h; exact spec_s2 13 _ rfl
    · cases hq; cases h; exact spec_s2 16 _ rfl
    · cases hq; cases h; exact spec_s3 26 _ rfl
    · cases hq; cases h; exact spec_s3 27 _ rfl
    · cases hq; cases h; exact spec_s3 28 _ rfl
    · cases hq; cases h; exact spec_s3 29 _ rfl
    · cases hq
  · exact spec_z f g h
theorem spec_sL (L : Nat) : SpecOk Try.prog ⟨fnOf, specS, L⟩ := fun f g h => spec_s f g h
end Go.Proofs.Ytnphdnokedhhkaa.Fw
