/- pulse: what each law asks first (closed), with Named spoken for. -/
import Derived.Test.YtaklelfdcbgebaaLwMl
set_option maxRecDepth 100000
set_option maxHeartbeats 4000000
set_option linter.unusedSimpArgs false
set_option linter.unusedVariables false
namespace Go.Proofs.Ytaklelfdcbgebaa.Fw
open Go Go.RowKit
theorem works_den : den ⟨fnOf, specNm, 300⟩ 20 31 [] = some (.v (.bool true)) := by kernel_rfl
def wkSem : List AV → Option AV
  | [] => some (.v (.bool true))
  | _ => none
theorem wkSem_is {avs : List AV} {x : AV} (h : wkSem avs = some x) : avs = [] ∧ x = .v (.bool true) := by
  unfold wkSem at h
  split at h
  · cases h; exact ⟨rfl, rfl⟩
  · cases h
def newWk : FuncId → Option (List AV → Option AV)
  | 31 => some wkSem
  | _ => none
noncomputable def specWk : FuncId → Option (List AV → Option AV) := fun f => match newWk f with | some g => some g | none => specNm f
theorem spec_wk : SpecOk Try.prog ⟨fnOf, specWk, 0⟩ :=
  spec_addz spec_nm (fun L => fnsOk _ _) follows newWk fun f g h => by
    unfold newWk at h
    split at h
    · cases h
      refine ⟨⟨_, Try.func31, ne_of_beq_false (by kernel_rfl), by kernel_rfl⟩, fun avs r h => ?_⟩
      obtain ⟨rfl, rfl⟩ := wkSem_is h
      exact toldZ (P := ⟨fnOf, specNm, 0⟩) works_den (WkT.refl _)
    · cases h
end Go.Proofs.Ytaklelfdcbgebaa.Fw
