/- what Turned and Halved do to each tap, spoken for. -/
import Derived.Test.YtnphdnokedhhkaaLwFrB
set_option maxRecDepth 100000
set_option maxHeartbeats 4000000
set_option linter.unusedSimpArgs false
set_option linter.unusedVariables false
namespace Go.Proofs.Ytnphdnokedhhkaa.Fw
open Go Go.RowKit
def halfP (z : Nat × Nat) : Nat × Nat := (fdiv z.1 4611686018427387904, fdiv z.2 4611686018427387904)
def tuSem : List AV → Option AV
  | [.cpx a b, .imm [.v (.int .i64 k)]] => some (.cpx (rotK (quarters k) (a, b)).1 (rotK (quarters k) (a, b)).2)
  | _ => none
def haSem : List AV → Option AV
  | [.cpx a b] => some (.cpx (halfP (a, b)).1 (halfP (a, b)).2)
  | _ => none
theorem den_tu {L n a b : Nat} {k : Int} : den ⟨fnOf, specR, L⟩ (n+1) 49 [.cpx a b, .imm [.v (.int .i64 k)]] = some (.cpx (rotK (quarters k) (a, b)).1 (rotK (quarters k) (a, b)).2) := by
  have hd : denD ⟨fnOf, specR, L⟩ n 49 [.cpx a b, .imm [.v (.int .i64 k)]] [] = some (.cpx (rotK (quarters k) (a, b)).1 (rotK (quarters k) (a, b)).2, []) := by kernel_rfl
  exact denD_sound hd trivial
theorem den_ha {L n a b : Nat} : den ⟨fnOf, specR, L⟩ (n+1) 50 [.cpx a b] = some (.cpx (halfP (a, b)).1 (halfP (a, b)).2) := by
  have hd : denD ⟨fnOf, specR, L⟩ n 50 [.cpx a b] [] = some (.cpx (halfP (a, b)).1 (halfP (a, b)).2, []) := by kernel_rfl
  exact denD_sound hd trivial
def newQ : FuncId → Option (List AV → Option AV)
  | 49 => some tuSem
  | 50 => some haSem
  | _ => none
def specQ : FuncId → Option (List AV → Option AV) := fun f => match newQ f with | some g => some g | none => specR f
theorem spec_q : SpecOk Try.prog ⟨fnOf, specQ, 0⟩ :=
  spec_adds spec_r (fun L => fnsOk _ _) follows newQ fun f g h => by
    unfold newQ at h
    split at h
    · cases h
      refine ⟨⟨_, Try.func49, ne_of_beq_false (by kernel_rfl), by kernel_rfl⟩, fun avs r h => ?_⟩
      unfold tuSem at h
      split at h
      · cases h; exact told (P := ⟨fnOf, specR, 0⟩) ⟨0, 1, den_tu⟩
      · cases h
    · cases h
      refine ⟨⟨_, Try.func50, ne_of_beq_false (by kernel_rfl), by kernel_rfl⟩, fun avs r h => ?_⟩
      unfold haSem at h
      split at h
      · cases h; exact told (P := ⟨fnOf, specR, 0⟩) ⟨0, 1, den_ha⟩
      · cases h
    · cases h
end Go.Proofs.Ytnphdnokedhhkaa.Fw
