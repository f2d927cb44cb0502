/- GridNears: the law's run. -/
import Derived.Test.YtdflnngkdibdeaaLwGnC
set_option maxRecDepth 100000
set_option maxHeartbeats 4000000
set_option exponentiation.threshold 4000
set_option linter.unusedSimpArgs false
set_option linter.unusedVariables false
namespace Go.Proofs.Ytdflnngkdibdeaa.Fw
open Go Go.RowKit
section
variable {L n : Nat} {x k : Int}
theorem near_same2 (y : Nat) : feq (bif wi y then fdiv (fofInt (nearK y)) 4661225614328463360 else 0) (bif wi y then nearF y else 0) = true := by
  cases h : wi y with
  | true => exact near_same h
  | false => show feq 0 0 = true; decide
theorem near_num2 (y : Nat) : isNaN (bif wi y then nearF y else 0) = false ∧ (((bif wi y then nearF y else 0 : Nat) : Int) != 9223372036854775808) = true := by
  cases h : wi y with
  | true =>
    refine ⟨fin_num (near_grid h).1, ?_⟩
    have := near_sign h
    show ((nearF y : Int) != 9223372036854775808) = true
    rw [bne_iff_ne]
    omega
  | false => exact ⟨by show isNaN 0 = false; decide, rfl⟩
theorem law_nears : den ⟨fnOf, specG, L⟩ (n+2) 5 [.int .u64 x, .int .i32 k] = some (.v (.bool true)) := by
  have h0 := call_den (@gfv_0 L n x)
  generalize canon x.toNat = y at h0
  have hs := @gsv_0 L n (bif wi y then fdiv (fofInt (nearK y)) 4661225614328463360 else 0) (bif wi y then nearF y else 0)
  rw [near_same2] at hs
  have hs := call_den hs
  obtain ⟨n1, n2⟩ := near_num2 y
  have bits : ∀ (live : List Nat) (u : Option (Nat × Bool)), Con.holds ⟨fnOf, specG, L⟩ (runF ⟨fnOf, specG, L⟩ (n+1)) (.any 0 live (MO.mk (some 81) (MOp.extern ExtK.bits [(Opd.t 80)]) u []) [(80, (.flt (bif wi y then nearF y else 0)))] [] (.v (.int .u64 ((bif wi y then nearF y else 0 : Nat) : Int))) []) := fun live u => by
    show Option.map (fun v => (v, ([] : Heap))) (if isNaN (bif wi y then nearF y else 0) = true then none else some (AV.v (.int .u64 ((bif wi y then nearF y else 0 : Nat) : Int)))) = _
    rw [n1]; rfl
  have f0 : (!feq 0 0) = false := by decide
  have no1 : ((1 : Int) != 1) = false := rfl
  have no0 : ((0 : Int) != 0) = false := rfl
  have eqq : ∀ b : Bool, (b == b) = true := fun b => by cases b <;> rfl
  cases c : onF y with
  | true =>
    have hw : wi y = true := by unfold onF at c; rw [Bool.and_eq_true] at c; exact c.1
    obtain ⟨q1, _, _⟩ := up12_is hw
    obtain ⟨_, _, q2⟩ := trunc_is q1 (up12_lt hw)
    have hc : ∀ live, Con.holds ⟨fnOf, specG, L⟩ (runF ⟨fnOf, specG, L⟩ (n+1)) (.any 0 live (MO.mk (some 37) (MOp.conv (ConvK.toInt .i32) (Opd.t 36)) none []) [(36, (.flt (fmul y 4661225614328463360)))] [] (.v (.int .i32 (stepsK y))) []) := fun live => by
      show (((ftoInt (up12 y) .i32).map (AV.int .i32)).map fun v => (v, ([] : Heap))) = _
      rw [q2]; rfl
    have e1 : (unitK y == stepsK y) = true := by unfold unitK; rw [c]; exact beq_self_eq_true _
    have e2 : (unitE y == 0) = true := by unfold unitE; rw [c]; rfl
    by_cases k1 : k < -4194304
    · have := @glt_2 L (n+1) x k (stepsK y) ((bif wi y then nearF y else 0 : Nat) : Int) y 0 1 true h0 c (hc _) (call_den (gov_0 (dT k1))) (dT k1) no1 f0 (eqq _) hs rfl (eqq _) (bits _ _) n2 e1
      rw [this, e2]
    · by_cases k2 : k > 4194304
      · have := @glt_10 L (n+1) x k (stepsK y) ((bif wi y then nearF y else 0 : Nat) : Int) y 0 1 true h0 c (hc _) (call_den (gov_1 (dF k1) (dT k2))) (dF k1) (dT k2) no1 f0 (eqq _) hs rfl (eqq _) (bits _ _) n2 e1
        rw [this, e2]
      · have hq : (!feq (fdiv (fofInt k) 4661225614328463360) (fdiv (fofInt k) 4661225614328463360)) = false := by
          rw [grid_eq (grid_parts (m := k) (by omega)) (grid_parts (m := k) (by omega))]; simp
        have := @glt_18 L (n+1) x k (stepsK y) ((bif wi y then nearF y else 0 : Nat) : Int) y (fdiv (fofInt k) 4661225614328463360) 0 true h0 c (hc _) (call_den (gov_2 (dF k1) (dF k2))) (dF k1) (dF k2) no0 hq (eqq _) hs rfl (eqq _) (bits _ _) n2 e1
        rw [this, e2]
  | false =>
    have e1 : (unitK y == 0) = true := by unfold unitK; rw [c]; rfl
    have e2 : (unitE y == 7) = true := by unfold unitE; rw [c]; rfl
    by_cases k1 : k < -4194304
    · have := @glt_26 L (n+1) x k 0 ((bif wi y then nearF y else 0 : Nat) : Int) y 0 1 true h0 c (call_den (gov_0 (dT k1))) (dT k1) no1 f0 (eqq _) hs rfl (eqq _) (bits _ _) n2 e1
      rw [this, e2]
    · by_cases k2 : k > 4194304
      · have := @glt_34 L (n+1) x k 0 ((bif wi y then nearF y else 0 : Nat) : Int) y 0 1 true h0 c (call_den (gov_1 (dF k1) (dT k2))) (dF k1) (dT k2) no1 f0 (eqq _) hs rfl (eqq _) (bits _ _) n2 e1
        rw [this, e2]
      · have hq : (!feq (fdiv (fofInt k) 4661225614328463360) (fdiv (fofInt k) 4661225614328463360)) = false := by
          rw [grid_eq (grid_parts (m := k) (by omega)) (grid_parts (m := k) (by omega))]; simp
        have := @glt_42 L (n+1) x k 0 ((bif wi y then nearF y else 0 : Nat) : Int) y (fdiv (fofInt k) 4661225614328463360) 0 true h0 c (call_den (gov_2 (dF k1) (dF k2))) (dF k1) (dF k2) no0 hq (eqq _) hs rfl (eqq _) (bits _ _) n2 e1
        rw [this, e2]
end
end Go.Proofs.Ytdflnngkdibdeaa.Fw
