/- Numbers in steps of 2^-6: nearest steps, sizes, sums of sizes. -/
import Derived.Test.YthcgeajojgecnaaLwRwH
set_option maxRecDepth 100000
set_option maxHeartbeats 4000000
set_option exponentiation.threshold 4000
set_option linter.unusedSimpArgs false
set_option linter.unusedVariables false
namespace Go.Proofs.Ythcgeajojgecnaa.Fw
open Go Go.RowKit
def grid6 (m : Int) (x : Nat) : Prop := fin x ∧ fv x = m * 2 ^ 1068
theorem grid6_add {m n : Int} {x y : Nat} (hx : grid6 m x) (hy : grid6 n y) (h : (m + n).natAbs < 2 ^ 53) : grid6 (m + n) (fadd x y) := by
  have e : fv x + fv y = (m + n) * 2 ^ 1068 := by rw [hx.2, hy.2, Int.add_mul]
  have := fadd_exact hx.1 hy.1 (by rw [e]; exact fits_grid h (by decide))
  exact ⟨this.1, by rw [this.2, e]⟩
theorem pos1068 : (0 : Int) < 2 ^ 1068 := Int.pow_pos (by decide)
theorem mul_lt1068 {m n : Int} : m * 2 ^ 1068 < n * 2 ^ 1068 ↔ m < n := ⟨fun h => Int.lt_of_mul_lt_mul_right h (Int.le_of_lt pos1068), fun h => Int.mul_lt_mul_of_pos_right h pos1068⟩
theorem mul_le1068 {m n : Int} : m * 2 ^ 1068 ≤ n * 2 ^ 1068 ↔ m ≤ n := ⟨fun h => Int.le_of_mul_le_mul_right h pos1068, fun h => Int.mul_le_mul_of_nonneg_right h (Int.le_of_lt pos1068)⟩
theorem mul_eq1068 {m n : Int} : m * 2 ^ 1068 = n * 2 ^ 1068 ↔ m = n := ⟨fun h => Int.eq_of_mul_eq_mul_right (pow_ne 1068) h, fun h => by rw [h]⟩
theorem grid6_gt {m n : Int} {x y : Nat} (hx : grid6 m x) (hy : grid6 n y) : fgt x y = decide (n < m) := by
  rw [fgt_fin hx.1 hy.1, hx.2, hy.2]; exact decide_eq_decide.2 mul_lt1068
theorem grid6_lt {m n : Int} {x y : Nat} (hx : grid6 m x) (hy : grid6 n y) : flt x y = decide (m < n) := by
  rw [flt_fin hx.1 hy.1, hx.2, hy.2]; exact decide_eq_decide.2 mul_lt1068
theorem grid6_le {m n : Int} {x y : Nat} (hx : grid6 m x) (hy : grid6 n y) : fle x y = decide (m ≤ n) := by
  rw [fle_fin hx.1 hy.1, hx.2, hy.2]; exact decide_eq_decide.2 mul_le1068
theorem grid6_eq {m n : Int} {x y : Nat} (hx : grid6 m x) (hy : grid6 n y) : feq x y = decide (m = n) := by
  rw [feq_fin hx.1 hy.1, hx.2, hy.2]; exact decide_eq_decide.2 mul_eq1068
theorem grid6_neg {m : Int} {x : Nat} (h : grid6 m x) : grid6 (-m) (fneg x) := by
  obtain ⟨a, b⟩ := fneg_fin h.1
  exact ⟨a, by rw [b, h.2, Int.neg_mul]⟩
theorem grid6_abs {m : Int} {x : Nat} (h : grid6 m x) : grid6 (m.natAbs : Int) (absF x) := by
  have e : absF x = x % 2 ^ 63 := by unfold absF; rw [fin_num h.1]; rfl
  obtain ⟨a, b⟩ := abs_fin h.1
  rw [e]
  refine ⟨a, ?_⟩
  rw [b, h.2, Int.natAbs_mul, Int.natAbs_pow, Int.natCast_mul, Int.natCast_pow]
  rfl
theorem grid6_zero : grid6 0 0 := by
  have hr : Ieee.double.read 0 = .number false 0 (-1074) := by decide
  exact ⟨⟨_, _, _, hr, by decide⟩, by rw [fv_of hr, signed_zero, Int.zero_mul]⟩
theorem grid6_one : grid6 64 4607182418800017408 := ⟨⟨_, _, _, show Ieee.double.read 4607182418800017408 = .number false (2 ^ 52) (-52) by decide, by decide⟩, of_decide_eq_true (by kernel_rfl)⟩
theorem grid6_four : grid6 256 4616189618054758400 := ⟨⟨_, _, _, show Ieee.double.read 4616189618054758400 = .number false (2 ^ 52) (-50) by decide, by decide⟩, of_decide_eq_true (by kernel_rfl)⟩
/-- the size, as the document takes it -/
def sizF (x : Nat) : Nat := if flt x 0 = true then fneg x else x
theorem grid6_siz {m : Int} {x : Nat} (h : grid6 m x) : grid6 (m.natAbs : Int) (sizF x) := by
  unfold sizF
  rw [grid6_lt h grid6_zero]
  by_cases c : m < 0
  · rw [if_pos (decide_eq_true c), show ((m.natAbs : Nat) : Int) = -m by omega]
    exact grid6_neg h
  · rw [if_neg (by simp [c]), show ((m.natAbs : Nat) : Int) = m by omega]
    exact h
/-- the nearest step of a number -/
def stepV (v : Int) : Int := v * 2 ^ 6 / 2 ^ 1074 + (halfUp (v * 2 ^ 6)).toNat
theorem stepK_of {a : Nat} (h : wiS a = true) : stepK a = stepV (fv a) := by
  obtain ⟨h1, h2⟩ := wiS_fin h
  have hle : (fv a).natAbs * 2 ^ 6 < 2 ^ 2098 := by
    calc (fv a).natAbs * 2 ^ 6 ≤ 2 ^ 1094 * 2 ^ 6 := Nat.mul_le_mul_right _ h2
      _ = 2 ^ 1100 := by rw [← Nat.pow_add]
      _ < 2 ^ 2098 := Nat.pow_lt_pow_right (by decide) (by decide)
  obtain ⟨q1, q2⟩ := fmul_pow2 (k := 6) h1 steps6_read hle
  unfold stepK stepV
  have e : fv (up6 a) = fv a * 2 ^ 6 := q2
  rw [e]
theorem stp6 {a : Nat} (h : wiS a = true) : grid6 (stepV (fv a)) (stpV a) ∧ grid6 (stepV (fv a)) (stpW a) ∧ (stepV (fv a)).natAbs < 2 ^ 32 := by
  obtain ⟨h1, hb⟩ := up6_is h
  have hK : (stepK a).natAbs < 2 ^ 32 := floor_small hb
  have hK2 : (stepK a).natAbs < 2 ^ 53 := Nat.lt_trans hK (by decide)
  obtain ⟨g1, g2⟩ := fofInt_exact hK2
  have hd := whole_div6 hK2 g1 g2
  rw [← stepK_of h]
  refine ⟨?_, ?_, hK⟩
  · have e : stpV a = stepF a := by unfold stpV; rw [h]; rfl
    rw [e]; exact step_is h
  · have e : stpW a = fdiv (fofInt (stepK a)) 4634204016564240384 := by unfold stpW; rw [h]; rfl
    rw [e]; exact hd
theorem raw_wi {T : Int} {k x : Nat} (h1 : 1 ≤ k) (hT : T.natAbs ≤ 2 ^ 31) (h : rawV T k x) : wiS x = true := by
  obtain ⟨e1, e2, e3, e4⟩ := edgeS_is
  obtain ⟨hf, hv⟩ := h
  have hb : (fv x).natAbs ≤ 2 ^ 1094 := by
    rw [hv, Int.natAbs_mul, Int.natAbs_pow]
    calc T.natAbs * 2 ^ (1054 - k) ≤ 2 ^ 31 * 2 ^ 1053 := Nat.mul_le_mul hT (Nat.pow_le_pow_right (by decide) (by omega))
      _ = 2 ^ 1084 := by rw [← Nat.pow_add]
      _ ≤ 2 ^ 1094 := Nat.pow_le_pow_right (by decide) (by decide)
  unfold wiS
  rw [fge_rk, fle_rk, e1, e2, e3, e4, fin_num hf, rk_fin hf]
  have c : (2 : Int) ^ 1094 = ((2 ^ 1094 : Nat) : Int) := by rw [Int.natCast_pow]; rfl
  rw [c]
  generalize 2 ^ 1094 = B at *
  simp only [Bool.not_false, Bool.true_and, Bool.and_eq_true, decide_eq_true_eq]
  omega
/-- the step that a raw tap's part is nearest to -/
def tapK (T : Int) (k : Nat) : Int := stepV (T * 2 ^ (1054 - k))
theorem raw_stp {T : Int} {k x : Nat} (h1 : 1 ≤ k) (hT : T.natAbs ≤ 2 ^ 31) (h : rawV T k x) : grid6 (tapK T k) (stpV x) ∧ grid6 (tapK T k) (stpW x) ∧ (tapK T k).natAbs < 2 ^ 32 := by
  have := stp6 (raw_wi h1 hT h)
  rw [h.2] at this
  exact this
section
variable (K J : Nat → Int)
def sumA : Nat → Nat
  | 0 => 0
  | i + 1 => sumA i + (K i).natAbs + (J i).natAbs
def tapB (i : Nat) : Bool := decide ((K i).natAbs ≤ 64) && decide ((J i).natAbs ≤ 64)
/-- may they be taps? -/
def areT (m : Nat) : Prop := (∀ i, i < m → tapB K J i = true) ∧ sumA K J m ≤ 256
instance (m : Nat) : Decidable (areT K J m) := by unfold areT; infer_instance
theorem sumA_le {i m : Nat} (h : i ≤ m) : sumA K J i ≤ sumA K J m := by
  induction m with
  | zero => obtain rfl : i = 0 := by omega
            exact Nat.le_refl _
  | succ m ih =>
    by_cases c : i ≤ m
    · have := ih c; rw [sumA]; omega
    · obtain rfl : i = m + 1 := by omega
      exact Nat.le_refl _
/-- a round goes on -/
def tapG (i : Nat) : Bool := tapB K J i && decide (sumA K J (i + 1) ≤ 256)
theorem areT_iff {m : Nat} : areT K J m ↔ ∀ i, i < m → tapG K J i = true := by
  unfold areT tapG
  constructor
  · intro ⟨h1, h2⟩ i hi
    rw [h1 i hi, Bool.true_and]
    exact decide_eq_true (Nat.le_trans (sumA_le K J (by omega)) h2)
  · intro h
    refine ⟨fun i hi => ?_, ?_⟩
    · have := h i hi; rw [Bool.and_eq_true] at this; exact this.1
    · cases m with
      | zero => exact Nat.zero_le _
      | succ m =>
        have := h m (by omega); rw [Bool.and_eq_true] at this; exact of_decide_eq_true this.2
end
/-- a list of taps: what the parts are -/
def tapL (K J : Nat → Int) (zs : List (Nat × Nat)) : Prop := ∀ j, j < zs.length → grid6 (K j) (zs.getD j (0, 0)).1 ∧ grid6 (J j) (zs.getD j (0, 0)).2
end Go.Proofs.Ythcgeajojgecnaa.Fw
