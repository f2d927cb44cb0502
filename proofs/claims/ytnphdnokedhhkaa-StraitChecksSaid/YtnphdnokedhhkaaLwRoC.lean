/- turned spoken for, the program's and the document's. -/
import Derived.Test.YtnphdnokedhhkaaLwRoB
set_option maxRecDepth 100000
set_option maxHeartbeats 4000000
set_option linter.unusedSimpArgs false
set_option linter.unusedVariables false
namespace Go.Proofs.Ytnphdnokedhhkaa.Fw
open Go Go.RowKit
def quarters (k : Int) : Nat := (k % 4).toNat
theorem quarters_le (k : Int) : quarters k ≤ 3 := by unfold quarters; omega
theorem and3 (k : Int) : IntKind.wrap .i64 ((BitVec.ofInt 64 k &&& BitVec.ofInt 64 3).toNat : Int) = (quarters k : Int) := by
  have e2 : BitVec.ofInt 64 3 = BitVec.ofNat 64 (2 ^ 2 - 1) := by decide
  rw [e2, BitVec.toNat_and, BitVec.toNat_ofNat, BitVec.toNat_ofInt, show (2 ^ 2 - 1) % 2 ^ 64 = 2 ^ 2 - 1 by decide, Nat.and_two_pow_sub_one_eq_mod]
  have e : ((2 ^ 64 : Nat) : Int) = 18446744073709551616 := by decide
  rw [e, wrap_id (by omega)]
  unfold quarters
  omega
section
variable {L n a b : Nat} {k : Int}
theorem rot_prog (hL : 3 ≤ L) : den ⟨fnOf, specK, L+1⟩ (n+1) 46 [.cpx a b, .int .i64 k] = some (.cpx (rotK (quarters k) (a, b)).1 (rotK (quarters k) (a, b)).2) := by
  have hq := quarters_le k
  refine @ro_0 (L+1) n a b _ _ (quarters k) 0 k [] ?_
  have e := and3 k
  have e2 : iand .i64 k 3 = (quarters k : Int) := e
  rw [e, e2]
  refine loopX (res := m46.res) (fun i => roSt (rotK i (a, b)).1 (rotK i (a, b)).2 (quarters k : Int) i) (quarters k) rfl (by omega) (fun i hi => ?_) ?_ (by simp)
  · have := @ror_0 (L+1) n (rotK i (a, b)).1 (rotK i (a, b)).2 0 0 i (quarters k : Int) 0 [4] (dLt hi)
    rw [wrap_id (n := (i : Int) + 1) (by omega)] at this
    exact this
  · exact @ror_1 (L+1) n _ _ 0 0 (quarters k) (quarters k : Int) 0 [4] dNlt
theorem rot_doc (hL : 3 ≤ L) : den ⟨fnOf, specK, L+1⟩ (n+1) 47 [.cpx a b, .int .i64 k] = some (.cpx (rotK (quarters k) (a, b)).1 (rotK (quarters k) (a, b)).2) := by
  have hq := quarters_le k
  have hlp : ∀ π, Con.holds ⟨fnOf, specK, L+1⟩ (runF ⟨fnOf, specK, L+1⟩ n) (.loop 0 [0, 1, 5] m47b0 π (ruSt a b (quarters k : Int) 0) (.exit 0) (ruSt (rotK (quarters k) (a, b)).1 (rotK (quarters k) (a, b)).2 (quarters k : Int) (quarters k))) := fun π => by
    refine loopX (res := m47.res) (fun i => ruSt (rotK i (a, b)).1 (rotK i (a, b)).2 (quarters k : Int) i) (quarters k) rfl (by omega) (fun i hi => ?_) ?_ (by simp)
    · have := @rur_0 (L+1) n (rotK i (a, b)).1 (rotK i (a, b)).2 0 0 i (quarters k : Int) 0 π (dLt hi)
      rw [wrap_id (n := (i : Int) + 1) (by omega)] at this
      exact this
    · exact @rur_1 (L+1) n _ _ 0 0 (quarters k) (quarters k : Int) 0 π dNlt
  have ht : k.tmod 4 = k % 4 ∨ (k.tmod 4 < 0 ∧ k.tmod 4 + 4 = k % 4) := by
    have h1 := Int.tmod_eq_emod (a := k) (b := 4)
    split at h1 <;> omega
  by_cases h : k.tmod 4 < 0
  · have e : IntKind.wrap .i64 (k.tmod 4 + 4) = (quarters k : Int) := by rw [wrap_id (by omega)]; unfold quarters; omega
    refine @ru_0 (L+1) n a b _ _ (quarters k) (quarters k : Int) k [] (dT h) ?_
    rw [e]; exact hlp [10]
  · have e : k.tmod 4 = (quarters k : Int) := by unfold quarters; omega
    refine @ru_1 (L+1) n a b _ _ (quarters k) (quarters k : Int) k [] (dF h) ?_
    rw [e]; exact hlp [7]
end
def rotSem : List AV → Option AV
  | [.cpx a b, .v (.int .i64 k)] => some (.cpx (rotK (quarters k) (a, b)).1 (rotK (quarters k) (a, b)).2)
  | _ => none
def newR : FuncId → Option (List AV → Option AV)
  | 46 => some rotSem
  | 47 => some rotSem
  | _ => none
def specR : FuncId → Option (List AV → Option AV) := fun f => match newR f with | some g => some g | none => specK f
theorem spec_r : SpecOk Try.prog ⟨fnOf, specR, 0⟩ :=
  spec_adds spec_k (fun L => fnsOk _ _) follows newR fun f g h => by
    unfold newR at h
    split at h
    · cases h
      refine ⟨⟨_, Try.func46, ne_of_beq_false (by kernel_rfl), by kernel_rfl⟩, fun avs r h => ?_⟩
      unfold rotSem at h
      split at h
      · cases h; exact told (P := ⟨fnOf, specK, 0⟩) ⟨4, 1, rot_prog (by decide)⟩
      · cases h
    · cases h
      refine ⟨⟨_, Try.func47, ne_of_beq_false (by kernel_rfl), by kernel_rfl⟩, fun avs r h => ?_⟩
      unfold rotSem at h
      split at h
      · cases h; exact told (P := ⟨fnOf, specK, 0⟩) ⟨4, 1, rot_doc (by decide)⟩
      · cases h
    · cases h
end Go.Proofs.Ytnphdnokedhhkaa.Fw
