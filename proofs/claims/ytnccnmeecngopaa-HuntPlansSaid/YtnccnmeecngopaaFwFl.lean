/- Laws of floats, plain. -/
import Derived.Test.YtnccnmeecngopaaFwA
set_option linter.unusedVariables false
set_option linter.unusedSimpArgs false
namespace Go.Proofs.Ytnccnmeecngopaa.Fw
open Go

theorem feq_iff (a b : Nat) : feq a b = true ↔ ford a b = some .eq := by
  unfold feq; simp
theorem signed_add (s : Bool) (m k e : Nat) : Ieee.signed s m (k + e) = Ieee.signed s m k * 2 ^ e := by
  unfold Ieee.signed
  simp only [Nat.shiftLeft_eq, Nat.pow_add, ← Nat.mul_assoc]
  cases s
  · simp only [Bool.false_eq_true, if_false]; push_cast; rfl
  · simp only [if_true]; push_cast; rw [Int.neg_mul]
theorem order_eq_at {s t : Bool} {m n : Nat} {i j c : Int} (hc : c ≤ i ∧ c ≤ j) :
    (Ieee.Datum.number s m i).order (.number t n j) = some .eq ↔ Ieee.signed s m (i - c).toNat = Ieee.signed t n (j - c).toNat := by
  have e1 : (i - c).toNat = (i - min i j).toNat + (min i j - c).toNat := by omega
  have e2 : (j - c).toNat = (j - min i j).toNat + (min i j - c).toNat := by omega
  have hp : (2 : Int) ^ (min i j - c).toNat ≠ 0 := by
    have : (0 : Int) < 2 ^ (min i j - c).toNat := Int.pow_pos (by decide)
    omega
  rw [e1, e2, signed_add, signed_add, Int.mul_eq_mul_right_iff hp]
  simp only [Ieee.Datum.order, Option.some.injEq]
  rw [Int.compare_eq_eq]
theorem feq_same {x a b : Nat} (h1 : feq x a = true) (h2 : feq x b = true) : feq a b = true := by
  rw [feq_iff] at *
  unfold ford Ieee.Format.order at *
  cases hx : Ieee.double.read x with
  | nan s f => rw [hx] at h1; simp [Ieee.Datum.order] at h1
  | infinity s =>
    rw [hx] at h1 h2
    cases ha : Ieee.double.read a with
    | nan t f => rw [ha] at h1; simp [Ieee.Datum.order] at h1
    | number t n j => rw [ha] at h1; simp only [Ieee.Datum.order, Option.some.injEq] at h1; split at h1 <;> cases h1
    | infinity t =>
      cases hb : Ieee.double.read b with
      | nan t f => rw [hb] at h2; simp [Ieee.Datum.order] at h2
      | number t n j => rw [hb] at h2; simp only [Ieee.Datum.order, Option.some.injEq] at h2; split at h2 <;> cases h2
      | infinity u =>
        rw [ha] at h1
        rw [hb] at h2
        revert h1 h2
        cases s <;> cases t <;> cases u <;> decide
  | number s m i =>
    rw [hx] at h1 h2
    cases ha : Ieee.double.read a with
    | nan t f => rw [ha] at h1; simp [Ieee.Datum.order] at h1
    | infinity t => rw [ha] at h1; simp only [Ieee.Datum.order, Option.some.injEq] at h1; split at h1 <;> cases h1
    | number t n j =>
      cases hb : Ieee.double.read b with
      | nan t f => rw [hb] at h2; simp [Ieee.Datum.order] at h2
      | infinity t => rw [hb] at h2; simp only [Ieee.Datum.order, Option.some.injEq] at h2; split at h2 <;> cases h2
      | number u p k =>
        rw [ha] at h1
        rw [hb] at h2
        have c1 : min i (min j k) ≤ i := by omega
        have c2 : min i (min j k) ≤ j := by omega
        have c3 : min i (min j k) ≤ k := by omega
        rw [order_eq_at ⟨c1, c2⟩] at h1
        rw [order_eq_at ⟨c1, c3⟩] at h2
        rw [order_eq_at ⟨c2, c3⟩, ← h1, ← h2]
end Go.Proofs.Ytnccnmeecngopaa.Fw
