/- Floats as whole numbers of 2^-1074, part three: order, whole numbers, products, quotients by a power of two. -/
import Derived.Test.YtnccnmeecngopaaFwGr2
set_option linter.unusedVariables false
set_option linter.unusedSimpArgs false
set_option exponentiation.threshold 3000
namespace Go.Proofs.Ytnccnmeecngopaa.Fw
open Go

theorem cmp_scale (x y : Int) {p : Int} (hp : 0 < p) : compare (x * p) (y * p) = compare x y := by
  have h1 : (x * p < y * p) ↔ x < y := Int.mul_lt_mul_right hp
  have h2 : (x * p = y * p) ↔ x = y := Int.mul_eq_mul_right_iff (by omega)
  show compareOfLessAndEq _ _ = compareOfLessAndEq _ _
  unfold compareOfLessAndEq
  simp only [h1, h2]
theorem ford_fin {a b : Nat} (ha : fin a) (hb : fin b) : ford a b = some (compare (fv a) (fv b)) := by
  obtain ⟨s, m, i, h1, hi⟩ := ha
  obtain ⟨t, n, j, h2, hj⟩ := hb
  have e1 : (i + 1074).toNat = (i - min i j).toNat + (min i j + 1074).toNat := by omega
  have e2 : (j + 1074).toNat = (j - min i j).toNat + (min i j + 1074).toNat := by omega
  rw [fv_of h1, fv_of h2, e1, e2, signed_add, signed_add, cmp_scale _ _ (Int.pow_pos (by decide))]
  unfold ford Ieee.Format.order
  rw [h1, h2]
  rfl
theorem cmp_cases (x y : Int) : (compare x y = .lt ↔ x < y) ∧ (compare x y = .eq ↔ x = y) ∧ (compare x y = .gt ↔ y < x) := by
  have e : compare x y = if x < y then Ordering.lt else if x = y then Ordering.eq else Ordering.gt := rfl
  rw [e]
  refine ⟨?_, ?_, ?_⟩ <;> (split <;> (try split)) <;> simp <;> omega
theorem flt_fin {a b : Nat} (ha : fin a) (hb : fin b) : flt a b = decide (fv a < fv b) := by
  unfold flt
  rw [ford_fin ha hb]
  obtain ⟨h1, _, _⟩ := cmp_cases (fv a) (fv b)
  by_cases h : fv a < fv b
  · rw [h1.2 h]; simp [h]
  · cases hc : compare (fv a) (fv b) with
    | lt => exact absurd (h1.1 hc) h
    | eq => simp [h]
    | gt => simp [h]
theorem fgt_fin {a b : Nat} (ha : fin a) (hb : fin b) : fgt a b = decide (fv b < fv a) := by
  unfold fgt
  rw [ford_fin ha hb]
  obtain ⟨_, _, h1⟩ := cmp_cases (fv a) (fv b)
  by_cases h : fv b < fv a
  · rw [h1.2 h]; simp [h]
  · cases hc : compare (fv a) (fv b) with
    | gt => exact absurd (h1.1 hc) h
    | eq => simp [h]
    | lt => simp [h]
theorem fle_fin {a b : Nat} (ha : fin a) (hb : fin b) : fle a b = decide (fv a ≤ fv b) := by
  unfold fle
  rw [ford_fin ha hb]
  obtain ⟨h1, h2, h3⟩ := cmp_cases (fv a) (fv b)
  cases hc : compare (fv a) (fv b) with
  | lt => have := h1.1 hc; simp; omega
  | eq => have := h2.1 hc; simp; omega
  | gt => have := h3.1 hc; simp; omega
theorem fge_fin {a b : Nat} (ha : fin a) (hb : fin b) : fge a b = decide (fv b ≤ fv a) := by
  unfold fge
  rw [ford_fin ha hb]
  obtain ⟨h1, h2, h3⟩ := cmp_cases (fv a) (fv b)
  cases hc : compare (fv a) (fv b) with
  | lt => have := h1.1 hc; simp; omega
  | eq => have := h2.1 hc; simp; omega
  | gt => have := h3.1 hc; simp; omega

theorem fits_small {v k : Nat} (hv : v < 2 ^ 53) (hk : k ≤ 2045) : fits (v * 2 ^ k) := by
  refine ⟨⟨v, k, hv, rfl⟩, ?_⟩
  have : v * 2 ^ k < 2 ^ 53 * 2 ^ k := Nat.mul_lt_mul_of_pos_right hv (Nat.pow_pos (by decide))
  rw [← Nat.pow_add] at this
  exact Nat.lt_of_lt_of_le this (Nat.pow_le_pow_right (by decide) (by omega))

/-- a whole number -/
theorem fofInt_exact {n : Int} (h : n.natAbs < 2 ^ 53) : fin (fofInt n) ∧ fv (fofInt n) = n * 2 ^ 1074 := by
  have e : FloatKind.f64.nearest n = Ieee.double.nearest (decide (n < 0)) n.natAbs 0 := rfl
  unfold fofInt
  rw [e]
  have hf : fits (n.natAbs * 2 ^ ((0 : Int) + 1074).toNat) := fits_small h (by decide)
  obtain ⟨h1, h2⟩ := write_exact (decide (n < 0)) (mag := n.natAbs) (place := 0) (by omega) hf
  refine ⟨h1, ?_⟩
  rw [h2, signed_natAbs (by simp)]
  first | done | rfl

theorem read_mag {x : Nat} {s : Bool} {n : Nat} {i : Int} (h : Ieee.double.read x = .number s n i) : n < 2 ^ 53 := by
  have hb : Ieee.double.binade = 2 ^ 52 := by decide
  unfold Ieee.Format.read at h
  simp only [hb] at h
  split at h
  · cases h; omega
  · split at h
    · cases h
      have : x % Ieee.double.signWeight % 2 ^ 52 < 2 ^ 52 := Nat.mod_lt _ (by decide)
      omega
    · split at h <;> cases h
theorem signed_abs (s : Bool) (n k : Nat) : (Ieee.signed s n k).natAbs = n * 2 ^ k := by
  unfold Ieee.signed
  rw [Nat.shiftLeft_eq]
  cases s <;> simp [Int.natAbs_mul, Int.natAbs_pow]
/-- nought, or not tiny -/
def stout (x : Nat) : Prop := fv x = 0 ∨ 2 ^ 600 ≤ (fv x).natAbs
theorem stout_place {x : Nat} {s : Bool} {n : Nat} {i : Int} (h : Ieee.double.read x = .number s n i) (hs : stout x) : n = 0 ∨ -530 ≤ i := by
  have hp := read_place h
  have hm := read_mag h
  rcases hs with h0 | h0
  · left
    rw [fv_of h] at h0
    have := signed_abs s n (i + 1074).toNat
    rw [h0] at this
    have hpos : 0 < 2 ^ (i + 1074).toNat := Nat.pow_pos (by decide)
    rcases Nat.eq_zero_or_pos n with hn | hn
    · exact hn
    · have := Nat.mul_pos hn hpos
      simp at *
      omega
  · right
    rw [fv_of h, signed_abs] at h0
    have h1 : 2 ^ 600 < 2 ^ 53 * 2 ^ (i + 1074).toNat := Nat.lt_of_le_of_lt h0 (Nat.mul_lt_mul_of_pos_right hm (Nat.pow_pos (by decide)))
    rw [← Nat.pow_add] at h1
    have := (Nat.pow_lt_pow_iff_right (by decide : 1 < 2)).1 h1
    omega

/-- A PRODUCT THAT IS A FLOAT IS EXACT. -/
theorem fmul_exact {a b : Nat} (ha : fin a) (hb : fin b) (sa : stout a) (sb : stout b) {V : Int} (hV : fv a * fv b = V * 2 ^ 1074) (hf : fits V.natAbs) : fin (fmul a b) ∧ fv (fmul a b) = V := by
  obtain ⟨s, m, i, h1, hi⟩ := ha
  obtain ⟨t, n, j, h2, hj⟩ := hb
  have p1 := stout_place h1 sa
  have p2 := stout_place h2 sb
  unfold fmul Ieee.Format.mul
  rw [h1, h2]
  simp only [Ieee.Datum.product, Option.map_some, cOpt, Ieee.Format.write]
  by_cases hz : m * n = 0
  · have hmn : m = 0 ∨ n = 0 := Nat.mul_eq_zero.1 hz
    have hv0 : V = 0 := by
      have h0 : fv a * fv b = 0 := by
        rw [fv_of h1, fv_of h2]
        rcases hmn with rfl | rfl
        · rw [signed_zero]; simp
        · rw [signed_zero]; simp
      rw [h0] at hV
      have hp : (2 : Int) ^ 1074 ≠ 0 := by have : (0 : Int) < 2 ^ 1074 := Int.pow_pos (by decide); omega
      rcases Int.mul_eq_zero.1 hV.symm with h | h
      · exact h
      · exact absurd h hp
    rw [hz, hv0]
    have hw : Ieee.double.nearest (s ^^ t) 0 (i + j) = Ieee.double.nearest (s ^^ t) 0 0 := by unfold Ieee.Format.nearest; rw [if_pos rfl, if_pos rfl]
    rw [hw]
    obtain ⟨q1, q2⟩ := write_exact (s ^^ t) (mag := 0) (place := 0) (by omega) (by rw [Nat.zero_mul]; exact ⟨⟨0, 0, by decide, rfl⟩, Nat.pow_pos (by decide)⟩)
    exact ⟨q1, by rw [q2, signed_zero]⟩
  · have hm : m ≠ 0 := fun h => hz (by rw [h, Nat.zero_mul])
    have hn : n ≠ 0 := fun h => hz (by rw [h, Nat.mul_zero])
    have hi2 : -530 ≤ i := p1.resolve_left hm
    have hj2 : -530 ≤ j := p2.resolve_left hn
    have key : Ieee.signed (s ^^ t) (m * n) (i + j + 1074).toNat = V := by
      have hp : (2 : Int) ^ 1074 ≠ 0 := by have : (0 : Int) < 2 ^ 1074 := Int.pow_pos (by decide); omega
      rw [← Int.mul_eq_mul_right_iff hp, ← hV, ← signed_add, fv_of h1, fv_of h2]
      have e : (i + j + 1074).toNat + 1074 = (i + 1074).toNat + (j + 1074).toNat := by omega
      rw [e]
      unfold Ieee.signed
      simp only [Nat.shiftLeft_eq, Nat.pow_add]
      have e2 : ((m * n * (2 ^ (i + 1074).toNat * 2 ^ (j + 1074).toNat) : Nat) : Int) = ((m * 2 ^ (i + 1074).toNat : Nat) : Int) * ((n * 2 ^ (j + 1074).toNat : Nat) : Int) := by
        rw [← Int.natCast_mul]; congr 1; simp only [Nat.mul_assoc, Nat.mul_left_comm, Nat.mul_comm]
      cases s <;> cases t <;> simp only [Bool.xor_false, Bool.xor_true, Bool.false_xor, Bool.not_true, Bool.not_false, Bool.false_eq_true, if_false, if_true, e2, Int.neg_mul, Int.mul_neg, Int.neg_neg]
    have hab : m * n * 2 ^ (i + j + 1074).toNat = V.natAbs := by rw [← key, signed_abs]
    obtain ⟨q1, q2⟩ := write_exact (s ^^ t) (mag := m * n) (place := i + j) (by omega) (by rw [hab]; exact hf)
    exact ⟨q1, by rw [q2]; exact key⟩
end Go.Proofs.Ytnccnmeecngopaa.Fw
