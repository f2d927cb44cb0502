/- Floats as whole numbers of 2^-1074, part four: quotients by a power of two, signs. -/
import Derived.Test.YtnccnmeecngopaaFwGr3
set_option linter.unusedVariables false
set_option linter.unusedSimpArgs false
set_option exponentiation.threshold 3000
namespace Go.Proofs.Ytnccnmeecngopaa.Fw
open Go

theorem pow_pos2 (k : Nat) : (0 : Int) < 2 ^ k := Int.pow_pos (by decide)
theorem pow_ne (k : Nat) : (2 : Int) ^ k ≠ 0 := by have : (0 : Int) < 2 ^ k := Int.pow_pos (by decide); omega
theorem fits_zero : fits 0 := ⟨⟨0, 0, by decide, rfl⟩, Nat.pow_pos (by decide)⟩
theorem nought_written (s : Bool) (place : Int) : fin (canon (Ieee.double.nearest s 0 place)) ∧ fv (canon (Ieee.double.nearest s 0 place)) = 0 := by
  have hw : Ieee.double.nearest s 0 place = Ieee.double.nearest s 0 0 := by unfold Ieee.Format.nearest; rw [if_pos rfl, if_pos rfl]
  rw [hw]
  obtain ⟨q1, q2⟩ := write_exact s (mag := 0) (place := 0) (by omega) (by rw [Nat.zero_mul]; exact fits_zero)
  exact ⟨q1, by rw [q2, signed_zero]⟩

/-- A QUOTIENT BY A POWER OF TWO IS EXACT. -/
theorem fdiv_pow2 {a b k : Nat} (ha : fin a) (sa : stout a) (hb : Ieee.double.read b = .number false (2 ^ 52) ((k : Int) - 52)) (hk : k ≤ 400) {V : Int} (hV : fv a = V * 2 ^ k) (hf : fits V.natAbs) : fin (fdiv a b) ∧ fv (fdiv a b) = V := by
  obtain ⟨s, m, i, h1, hi⟩ := ha
  have p1 := stout_place h1 sa
  have hm53 := read_mag h1
  have hlog52 : (2 ^ 52 : Nat).log2 = 52 := by decide
  unfold fdiv Ieee.Format.div
  rw [h1, hb]
  have hne : (2 ^ 52 : Nat) ≠ 0 := by decide
  have hfb : Ieee.double.fractionBits + 2 = 54 := rfl
  simp only [Ieee.Datum.quotient, if_neg hne, Option.map_some, cOpt, Ieee.Format.write, hfb, hlog52]
  by_cases hm : m = 0
  · subst hm
    have hv0 : V = 0 := by
      rw [fv_of h1, signed_zero] at hV
      rcases Int.mul_eq_zero.1 hV.symm with h | h
      · exact h
      · exact absurd h (pow_ne k)
    have e : 2 * (0 <<< (54 + 52 - Nat.log2 0) / 2 ^ 52) + (0 <<< (54 + 52 - Nat.log2 0) % 2 ^ 52 != 0).toNat = 0 := by simp
    rw [e, hv0]
    exact nought_written _ _
  · have hi2 : -530 ≤ i := p1.resolve_left hm
    have hl : m.log2 ≤ 52 := by
      have := (Nat.log2_lt hm (k := 53)).2 hm53
      omega
    obtain ⟨I, hI⟩ : ∃ I : Nat, i + 1074 = I := ⟨(i + 1074).toNat, by omega⟩
    obtain ⟨w, hw⟩ : ∃ w : Nat, 54 + 52 - m.log2 = w + 52 := ⟨54 - m.log2, by omega⟩
    have hwle : w ≤ 54 := by omega
    have e1 : m <<< (w + 52) / 2 ^ 52 = m * 2 ^ w := by
      rw [Nat.shiftLeft_eq, Nat.pow_add, ← Nat.mul_assoc, Nat.mul_div_cancel _ (by decide)]
    have e2 : m <<< (w + 52) % 2 ^ 52 = 0 := by
      rw [Nat.shiftLeft_eq, Nat.pow_add, ← Nat.mul_assoc, Nat.mul_mod_left]
    rw [hw, e1, e2]
    have e3 : 2 * (m * 2 ^ w) + ((0 : Nat) != 0).toNat = m * 2 ^ (w + 1) := by
      simp [Nat.pow_succ]; rw [Nat.mul_comm 2, Nat.mul_assoc]
    rw [e3]
    have hP : (i - ((k : Int) - 52) - ((w + 52 : Nat) : Int) - 1 + 1074).toNat + (w + 1) + k = I := by omega
    generalize hplace : i - ((k : Int) - 52) - ((w + 52 : Nat) : Int) - 1 = place at *
    have hpl : -1074 ≤ place := by omega
    have hfa : Ieee.signed s m I = V * 2 ^ k := by rw [← hV, fv_of h1]; congr 1; omega
    have key : Ieee.signed (s ^^ false) (m * 2 ^ (w + 1)) (place + 1074).toNat = V := by
      rw [← Int.mul_eq_mul_right_iff (pow_ne k), ← hfa, ← signed_add, Bool.xor_false]
      refine signed_eq s ?_
      rw [Nat.mul_assoc, ← Nat.pow_add]
      congr 2; omega
    have hab : m * 2 ^ (w + 1) * 2 ^ (place + 1074).toNat = V.natAbs := by rw [← key, signed_abs]
    obtain ⟨q1, q2⟩ := write_exact (s ^^ false) (mag := m * 2 ^ (w + 1)) (place := place) hpl (by rw [hab]; exact hf)
    exact ⟨q1, by rw [q2]; exact key⟩

/-! ### parts of 4096 -/
/-- x is a number of m steps of 2^-12 -/
def grid (m : Int) (x : Nat) : Prop := fin x ∧ fv x = m * 2 ^ 1062
theorem grid_stout {m : Int} {x : Nat} (h : grid m x) : stout x := by
  unfold stout
  rw [h.2]
  by_cases hm : m = 0
  · left; simp [hm]
  · right
    rw [Int.natAbs_mul, Int.natAbs_pow]
    have h1 : 1 ≤ m.natAbs := by omega
    have h2 : (2 : Nat) ^ 600 ≤ 2 ^ 1062 := Nat.pow_le_pow_right (by decide) (by decide)
    calc (2 : Nat) ^ 600 ≤ 1 * 2 ^ 1062 := by rw [Nat.one_mul]; exact h2
      _ ≤ m.natAbs * 2 ^ 1062 := Nat.mul_le_mul_right _ h1
theorem fits_grid {m : Int} {k : Nat} (h : m.natAbs < 2 ^ 53) (hk : k ≤ 2045) : fits (m * 2 ^ k).natAbs := by
  rw [Int.natAbs_mul, Int.natAbs_pow]
  exact fits_small h hk
theorem grid_add {m n : Int} {x y : Nat} (hx : grid m x) (hy : grid n y) (h : (m + n).natAbs < 2 ^ 53) : grid (m + n) (fadd x y) := by
  have e : fv x + fv y = (m + n) * 2 ^ 1062 := by rw [hx.2, hy.2, Int.add_mul]
  obtain ⟨h1, h2⟩ := fadd_exact hx.1 hy.1 (by rw [e]; exact fits_grid h (by decide))
  exact ⟨h1, by rw [h2, e]⟩
theorem grid_sub {m n : Int} {x y : Nat} (hx : grid m x) (hy : grid n y) (h : (m - n).natAbs < 2 ^ 53) : grid (m - n) (fsub x y) := by
  have e : fv x - fv y = (m - n) * 2 ^ 1062 := by rw [hx.2, hy.2, Int.sub_mul]
  obtain ⟨h1, h2⟩ := fsub_exact hx.1 hy.1 (by rw [e]; exact fits_grid h (by decide))
  exact ⟨h1, by rw [h2, e]⟩
/-- so many parts of 4096 -/
theorem grid_parts {m : Int} (h : m.natAbs < 2 ^ 53) : grid m (fdiv (fofInt m) 4661225614328463360) := by
  obtain ⟨h1, h2⟩ := fofInt_exact h
  have hb : Ieee.double.read 4661225614328463360 = .number false (2 ^ 52) (((12 : Nat) : Int) - 52) := by decide +kernel
  have hst : stout (fofInt m) := by
    unfold stout
    rw [h2]
    by_cases hm : m = 0
    · left; simp [hm]
    · right
      rw [Int.natAbs_mul, Int.natAbs_pow]
      have h1 : 1 ≤ m.natAbs := by omega
      have h2 : (2 : Nat) ^ 600 ≤ 2 ^ 1074 := Nat.pow_le_pow_right (by decide) (by decide)
      calc (2 : Nat) ^ 600 ≤ 1 * 2 ^ 1074 := by rw [Nat.one_mul]; exact h2
        _ ≤ m.natAbs * 2 ^ 1074 := Nat.mul_le_mul_right _ h1
  have e : fv (fofInt m) = m * 2 ^ 1062 * 2 ^ 12 := by rw [h2, Int.mul_assoc, ← Int.pow_add]
  exact fdiv_pow2 h1 hst hb (by decide) e (fits_grid h (by decide))
theorem grid_eq {m n : Int} {x y : Nat} (hx : grid m x) (hy : grid n y) : feq x y = decide (m = n) := by
  rw [feq_fin hx.1 hy.1, hx.2, hy.2]
  simp only [Int.mul_eq_mul_right_iff (pow_ne 1062)]
theorem grid_lt {m n : Int} {x y : Nat} (hx : grid m x) (hy : grid n y) : flt x y = decide (m < n) := by
  rw [flt_fin hx.1 hy.1, hx.2, hy.2]
  simp only [Int.mul_lt_mul_right (pow_pos2 1062)]
theorem grid_gt {m n : Int} {x y : Nat} (hx : grid m x) (hy : grid n y) : fgt x y = decide (n < m) := by
  rw [fgt_fin hx.1 hy.1, hx.2, hy.2]
  simp only [Int.mul_lt_mul_right (pow_pos2 1062)]
theorem grid_le {m n : Int} {x y : Nat} (hx : grid m x) (hy : grid n y) : fle x y = decide (m ≤ n) := by
  rw [fle_fin hx.1 hy.1, hx.2, hy.2]
  simp only [Int.mul_le_mul_right (pow_pos2 1062)]
theorem grid_ge {m n : Int} {x y : Nat} (hx : grid m x) (hy : grid n y) : fge x y = decide (n ≤ m) := by
  rw [fge_fin hx.1 hy.1, hx.2, hy.2]
  simp only [Int.mul_le_mul_right (pow_pos2 1062)]
end Go.Proofs.Ytnccnmeecngopaa.Fw
