/- Points and taps on the grid: their products are exact; the sums of a shape, in whole numbers. -/
import Derived.Test.YtaklelfdcbgebaaLwTcB
set_option maxRecDepth 100000
set_option maxHeartbeats 4000000
set_option linter.unusedSimpArgs false
set_option linter.unusedVariables false
set_option exponentiation.threshold 4000
namespace Go.Proofs.Ytaklelfdcbgebaa.Fw
open Go Go.RowKit
theorem six_stout {m : Int} {x : Nat} (h : six m x) : stout x := by
  unfold stout
  rw [h.2]
  by_cases hm : m = 0
  · left; simp [hm]
  · right
    rw [Int.natAbs_mul, Int.natAbs_pow]
    have h1 : 1 ≤ m.natAbs := by omega
    have h2 : (2 : Nat) ^ 600 ≤ 2 ^ 1068 := Nat.pow_le_pow_right (by decide) (by decide)
    calc (2 : Nat) ^ 600 ≤ 1 * 2 ^ 1068 := by rw [Nat.one_mul]; exact h2
      _ ≤ m.natAbs * 2 ^ 1068 := Nat.mul_le_mul_right _ h1
theorem six_mul {a b : Int} {x y : Nat} (hx : six a x) (hy : six b y) (h : (a * b).natAbs < 2 ^ 53) : grid (a * b) (fmul x y) := by
  have e : fv x * fv y = a * b * 2 ^ 1062 * 2 ^ 1074 := by
    rw [hx.2, hy.2]
    have p : (2 : Int) ^ 1068 * 2 ^ 1068 = 2 ^ 1062 * 2 ^ 1074 := by rw [← Int.pow_add, ← Int.pow_add]
    calc a * 2 ^ 1068 * (b * 2 ^ 1068) = a * b * (2 ^ 1068 * 2 ^ 1068) := by
          rw [Int.mul_assoc, Int.mul_assoc]; congr 1; rw [Int.mul_left_comm]
      _ = _ := by rw [p, Int.mul_assoc (a * b)]
  exact fmul_exact hx.1 hy.1 (six_stout hx) (six_stout hy) e (fits_grid h (by decide))
/-- a sum of whole numbers -/
def sumI (n : Nat) (f : Nat → Int) : Int := match n with | 0 => 0 | n + 1 => sumI n f + f n
theorem sumI_bound {n B : Nat} {f : Nat → Int} (h : ∀ i, i < n → (f i).natAbs ≤ B) : (sumI n f).natAbs ≤ n * B := by
  induction n with
  | zero => exact Nat.zero_le _
  | succ n ih =>
    have a := ih fun i hi => h i (by omega)
    have b := h n (by omega)
    unfold sumI
    rw [Nat.succ_mul]
    omega
/-- what point k gives sample m by tap i -/
def term (r : Nat) (z t : Nat → Int) (m k i : Nat) : Int := if k * r + i = m then z k * t i else 0
/-- the program's sum at m after k points and i taps of the next -/
def accS (r T : Nat) (z t : Nat → Int) (m k i : Nat) : Int := sumI k (fun k' => sumI T (term r z t m k')) + sumI i (term r z t m k)
theorem accS_next {r T : Nat} {z t : Nat → Int} {m k : Nat} : accS r T z t m k T = accS r T z t m (k + 1) 0 := by
  unfold accS; show _ = sumI k _ + sumI T _ + 0; omega
theorem accS_step {r T : Nat} {z t : Nat → Int} {m k i : Nat} : accS r T z t m k (i + 1) = accS r T z t m k i + term r z t m k i := by
  unfold accS; show _ + (_ + _) = _; omega
theorem term_bound {r : Nat} {z t : Nat → Int} {m k i : Nat} (hz : (z k).natAbs ≤ 8192) (ht : (t i).natAbs ≤ 8192) : (term r z t m k i).natAbs ≤ 67108864 := by
  unfold term
  split
  · rw [Int.natAbs_mul]; exact Nat.mul_le_mul hz ht
  · exact Nat.zero_le _
end Go.Proofs.Ytaklelfdcbgebaa.Fw
