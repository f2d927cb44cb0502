/- PulseBack: no other point at a point's own instant; the law's own run. -/
import Derived.Test.YtaklelfdcbgebaaLwFpC
import Derived.Test.YtaklelfdcbgebaaLwBcA
set_option maxRecDepth 100000
set_option maxHeartbeats 4000000
set_option exponentiation.threshold 4000
set_option linter.unusedSimpArgs false
set_option linter.unusedVariables false
namespace Go.Proofs.Ytaklelfdcbgebaa.Fw
open Go Go.RowKit
theorem sumI_weigh {n B : Nat} {g t : Nat → Int} (h : ∀ i, i < n → (g i).natAbs ≤ B * (t i).natAbs) : (sumI n g).natAbs ≤ B * sumT t n := by
  induction n with
  | zero => exact Nat.zero_le _
  | succ n ih =>
    have a := ih fun i hi => h i (by omega)
    have b := h n (by omega)
    unfold sumI
    rw [sumT, Nat.mul_add]
    omega
section
variable {r f K : Nat} {t z : Nat → Int} {ts : List Nat}
theorem acc_low (hf : fitOk r f t ts) (hz : ∀ k, (z k).natAbs ≤ 4096) (m : Nat) : (accS r ts.length z t m K 0).natAbs ≤ 1048576 := by
  obtain ⟨r1, r8, f1, f2, f3, f4, f5, f6, f7⟩ := hf
  rw [acc_same (by omega)]
  unfold accD
  have := sumI_weigh (n := ts.length) (B := 4096) (t := t) (g := fun i' => if i' ≤ m ∧ (m - i') % r = 0 ∧ (m - i') / r < K then z ((m - i') / r) * t i' else 0) (fun i hi => by
    show (if i ≤ m ∧ (m - i) % r = 0 ∧ (m - i) / r < K then z ((m - i) / r) * t i else 0).natAbs ≤ _
    split
    · rw [Int.natAbs_mul]; exact Nat.mul_le_mul_right _ (hz _)
    · exact Nat.zero_le _)
  omega
end
/-- a number of the grid that is a number of sixty-fourths -/
theorem grid_six {a : Int} {x y : Nat} (hx : grid (a * 64) x) (hy : six a y) : feq x y = true := by
  rw [feq_fin hx.1 hy.1, hx.2, hy.2]
  refine decide_eq_true ?_
  rw [Int.mul_assoc, show (64 : Int) = 2 ^ 6 from rfl, ← Int.pow_add]
section
variable {L n : Nat} {rate fore att : Int} {xs ps : List Int} {odd : Nat}
end
end Go.Proofs.Ytaklelfdcbgebaa.Fw
