/- the closure of plain, spoken for. -/
import Derived.Test.YtnphdnokedhhkaaLwPaA
set_option maxRecDepth 100000
set_option maxHeartbeats 4000000
set_option linter.unusedSimpArgs false
set_option linter.unusedVariables false
namespace Go.Proofs.Ytnphdnokedhhkaa.Fw
open Go Go.RowKit
def ptSem : List AV → Option AV
  | [.cpx a b] => some (.v (.bool (!ptOK (a, b))))
  | _ => none
theorem den_pt {L n a b : Nat} : den ⟨fnOf, specK, L⟩ (n+1) 62 [.cpx a b] = some (.v (.bool (!ptOK (a, b)))) := by
  unfold ptOK
  cases h : plainF a 4638707616191610880 with
  | true =>
    rw [@pcl_1 L n [] a b 0 [] (by rw [h]; rfl)]
    simp only [h, Bool.true_and]
  | false =>
    rw [@pcl_0 L n [] a b 0 [] (by rw [h]; rfl)]
    simp only [h, Bool.false_and]; rfl
def newW : FuncId → Option (List AV → Option AV)
  | 62 => some ptSem
  | _ => none
def specW : FuncId → Option (List AV → Option AV) := fun f => match newW f with | some g => some g | none => specK f
theorem spec_w : SpecOk Try.prog ⟨fnOf, specW, 0⟩ :=
  spec_adds spec_k (fun L => fnsOk _ _) follows newW fun f g h => by
    unfold newW at h
    split at h
    · cases h
      refine ⟨⟨_, Try.func62, ne_of_beq_false (by kernel_rfl), by kernel_rfl⟩, fun avs r h => ?_⟩
      unfold ptSem at h
      split at h
      · cases h; exact told (P := ⟨fnOf, specK, 0⟩) ⟨0, 1, den_pt⟩
      · cases h
    · cases h
end Go.Proofs.Ytnphdnokedhhkaa.Fw
