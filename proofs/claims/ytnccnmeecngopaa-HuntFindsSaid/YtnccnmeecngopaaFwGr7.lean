/- Floats as whole numbers of 2^-1074, part seven: the same number at another place is written the same; times a power of two. -/
import Derived.Test.YtnccnmeecngopaaFwGr6
set_option linter.unusedVariables false
set_option linter.unusedSimpArgs false
set_option exponentiation.threshold 3000
namespace Go.Proofs.Ytnccnmeecngopaa.Fw
open Go

theorem oneMore_scale (way : Ieee.Toward) (s : Bool) (n g w : Nat) (hw : 0 < w) : oneMore way s (n * w) (g * w) = oneMore way s n g := by
  have hm : n * w % (g * w) = n % g * w := Nat.mul_mod_mul_right ..
  have hd : n * w / (g * w) = n / g := Nat.mul_div_mul_right _ _ hw
  have e1 : (g * w < 2 * (n % g * w)) ↔ (g < 2 * (n % g)) := by
    rw [← Nat.mul_assoc]; exact Nat.mul_lt_mul_right hw
  have e2 : (g * w = 2 * (n % g * w)) ↔ (g = 2 * (n % g)) := by
    rw [← Nat.mul_assoc]
    exact ⟨fun h => Nat.eq_of_mul_eq_mul_right hw h, fun h => by rw [← h]⟩
  have e3 : (g * w == 2 * (n % g * w)) = (g == 2 * (n % g)) := by
    rw [Bool.eq_iff_iff, beq_iff_eq, beq_iff_eq]; exact e2
  have e4 : (n % g * w != 0) = (n % g != 0) := by
    rw [Bool.eq_iff_iff, bne_iff_ne, bne_iff_ne]
    constructor
    · intro h h0; exact h (by rw [h0, Nat.zero_mul])
    · intro h; exact Nat.mul_ne_zero h (by omega)
  unfold oneMore
  rw [hm, hd]
  cases way with
  | even => simp only [e1, e3]
  | down => simp only [e4]
  | up => simp only [e4]
  | zero => rfl
theorem cut_scale (way : Ieee.Toward) (s : Bool) (n : Nat) {d1 d2 w : Nat} (hw : 0 < w) (h : 2 ^ d1 = 2 ^ d2 * w) : way.cut s (n * w) d1 = way.cut s n d2 := by
  rw [cut_eq, cut_eq, h, oneMore_scale _ _ _ _ _ hw, Nat.mul_div_mul_right _ _ hw]
theorem log2_shift {c : Nat} (hc : c ≠ 0) (t : Nat) : (c * 2 ^ t).log2 = c.log2 + t := by
  have h0 : c * 2 ^ t ≠ 0 := Nat.mul_ne_zero hc (by have := Nat.pow_pos (n := t) (by decide : 0 < 2); omega)
  have h1 : 2 ^ (c.log2 + t) ≤ c * 2 ^ t := by rw [Nat.pow_add]; exact Nat.mul_le_mul_right _ (Nat.log2_self_le hc)
  have h2 : c * 2 ^ t < 2 ^ (c.log2 + t + 1) := by
    rw [show c.log2 + t + 1 = c.log2 + 1 + t by omega, Nat.pow_add]
    exact Nat.mul_lt_mul_of_pos_right Nat.lt_log2_self (Nat.pow_pos (by decide))
  have h3 := (Nat.le_log2 h0).2 h1
  have h4 := (Nat.log2_lt h0).2 h2
  omega
/-- THE SAME NUMBER AT ANOTHER PLACE -/
theorem nearest_shift (s : Bool) (c t : Nat) (place : Int) : Ieee.double.nearest s (c * 2 ^ t) place = Ieee.double.nearest s c (place + t) := by
  by_cases hc : c = 0
  · subst hc
    unfold Ieee.Format.nearest
    rw [Nat.zero_mul, if_pos rfl, if_pos rfl]
  · have h0 : c * 2 ^ t ≠ 0 := Nat.mul_ne_zero hc (by have := Nat.pow_pos (n := t) (by decide : 0 < 2); omega)
    unfold Ieee.Format.nearest
    rw [if_neg hc, if_neg h0]
    simp only [log2_shift hc]
    have e : place + ((c.log2 + t : Nat) : Int) - (Ieee.double.fractionBits : Nat) = place + (t : Int) + (c.log2 : Nat) - (Ieee.double.fractionBits : Nat) := by omega
    rw [e]
    generalize max (place + (t : Int) + (c.log2 : Nat) - (Ieee.double.fractionBits : Nat)) Ieee.double.leastPlace = last
    congr 3
    rcases Int.lt_or_le last place with h | h
    · have a1 : (last - place).toNat = 0 := by omega
      have a2 : (last - (place + t)).toNat = 0 := by omega
      have a3 : (place + t - last).toNat = t + (place - last).toNat := by omega
      rw [a1, a2, a3, Nat.shiftLeft_eq, Nat.shiftLeft_eq, Nat.pow_add, Nat.mul_assoc]
    · have a0 : (place - last).toNat = 0 := by omega
      rw [a0, Nat.shiftLeft_zero]
      rcases Int.lt_or_le last (place + t) with h2 | h2
      · have a1 : (last - (place + t)).toNat = 0 := by omega
        have a2 : t = (place + t - last).toNat + (last - place).toNat := by omega
        rw [a1, Nat.shiftLeft_eq]
        have a3 : c * 2 ^ t = c * 2 ^ (place + t - last).toNat * 2 ^ (last - place).toNat := by
          rw [Nat.mul_assoc, ← Nat.pow_add]; congr 2
        rw [a3]
        exact cut_scale _ _ _ (Nat.pow_pos (by decide)) (by simp)
      · have a1 : (place + t - last).toNat = 0 := by omega
        rw [a1, Nat.shiftLeft_zero]
        refine cut_scale _ _ _ (Nat.pow_pos (by decide)) ?_
        rw [← Nat.pow_add]; congr 1; omega

/-- TIMES A POWER OF TWO: exact, even of the least numbers, if it is not too great. -/
theorem fmul_pow2 {a b k : Nat} (ha : fin a) (hb : Ieee.double.read b = .number false (2 ^ 52) ((k : Int) - 52)) (hf : (fv a).natAbs * 2 ^ k < 2 ^ 2098) : fin (fmul a b) ∧ fv (fmul a b) = fv a * 2 ^ k := by
  obtain ⟨s, m, i, h1, hi⟩ := ha
  have hm := read_mag h1
  unfold fmul Ieee.Format.mul
  rw [h1, hb]
  simp only [Ieee.Datum.product, Option.map_some, cOpt, Ieee.Format.write]
  rw [nearest_shift, show i + ((k : Int) - 52) + ((52 : Nat) : Int) = i + k by omega, Bool.xor_false]
  have e : (i + k + 1074).toNat = (i + 1074).toNat + k := by omega
  rw [fv_of h1, signed_abs] at hf
  obtain ⟨q1, q2⟩ := write_exact s (mag := m) (place := i + k) (by omega) (by
    rw [e, Nat.pow_add, ← Nat.mul_assoc]
    exact ⟨⟨m, (i + 1074).toNat + k, hm, by rw [Nat.pow_add, Nat.mul_assoc]⟩, hf⟩)
  refine ⟨q1, ?_⟩
  rw [q2, e, signed_add, fv_of h1]
end Go.Proofs.Ytnccnmeecngopaa.Fw
