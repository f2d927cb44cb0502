/- taps spoken for, the program's and the document's. -/
import Derived.Test.YtnphdnokedhhkaaLwTaB
set_option maxRecDepth 100000
set_option maxHeartbeats 4000000
set_option linter.unusedSimpArgs false
set_option linter.unusedVariables false
namespace Go.Proofs.Ytnphdnokedhhkaa.Fw
open Go Go.RowKit
def tapSem : List AV → Option AV
  | [.lst 1 els] => (unL unC els).bind fun zs => if zs.length ≤ 17592186044415 then some (.v (.bool (tapsF zs))) else none
  | _ => none
theorem tapSem_is {avs : List AV} {r : AV} (h : tapSem avs = some r) : ∃ zs, avs = [.lst 1 (zs.map celC)] ∧ zs.length ≤ 17592186044415 ∧ r = .v (.bool (tapsF zs)) := by
  unfold tapSem at h
  split at h
  · rename_i els
    rw [Option.bind_eq_some_iff] at h
    obtain ⟨zs, h1, h2⟩ := h
    split at h2
    · rename_i hm
      cases h2
      have := unL_inv (enc := celC) unC_is h1
      subst this
      exact ⟨zs, rfl, hm, rfl⟩
    · cases h2
  · cases h
theorem tapSem_at {zs : List (Nat × Nat)} (h : zs.length ≤ 17592186044415) : tapSem [.lst 1 (zs.map celC)] = some (.v (.bool (tapsF zs))) := by
  simp only [tapSem, unC_L, Option.bind_some, if_pos h]
def newT : FuncId → Option (List AV → Option AV)
  | 41 => some tapSem
  | 43 => some tapSem
  | _ => none
def specT : FuncId → Option (List AV → Option AV) := fun f => match newT f with | some g => some g | none => specO f
theorem spec_t : SpecOk Try.prog ⟨fnOf, specT, 0⟩ :=
  spec_adds spec_o (fun L => fnsOk _ _) follows newT fun f g h => by
    unfold newT at h
    split at h
    · cases h
      refine ⟨⟨_, Try.func41, ne_of_beq_false (by kernel_rfl), by kernel_rfl⟩, fun avs r h => ?_⟩
      obtain ⟨zs, rfl, hm, rfl⟩ := tapSem_is h
      exact told (P := ⟨fnOf, specO, 0⟩) ⟨zs.length + 1, 1, tap_prog (Nat.le_refl _) hm⟩
    · cases h
      refine ⟨⟨_, Try.func43, ne_of_beq_false (by kernel_rfl), by kernel_rfl⟩, fun avs r h => ?_⟩
      obtain ⟨zs, rfl, hm, rfl⟩ := tapSem_is h
      exact told (P := ⟨fnOf, specO, 0⟩) ⟨65, 1, tap_doc (Nat.le_refl _) hm⟩
    · cases h
end Go.Proofs.Ytnphdnokedhhkaa.Fw
