/- Floats as whole numbers of 2^-1074: what is exact stays exact. Plain: nothing here names a program. -/
import Derived.Test.YtnccnmeecngopaaFwFl
set_option linter.unusedVariables false
set_option linter.unusedSimpArgs false
namespace Go.Proofs.Ytnccnmeecngopaa.Fw
open Go

/-- the word of a sign and a rung is read back -/
theorem word_div (s : Bool) {r : Nat} (h : r < 2 ^ 63) : Ieee.double.word s r / 2 ^ 63 % 2 = s.toNat ∧ Ieee.double.word s r % 2 ^ 63 = r := by
  have hs : Ieee.double.signWeight = 2 ^ 63 := by decide
  unfold Ieee.Format.word
  cases s with
  | false => simp only [Bool.false_eq_true, if_false, Bool.toNat_false]; omega
  | true => simp only [if_true, hs, Bool.toNat_true]; omega

theorem read_sub (s : Bool) {k : Nat} (h : k < 2 ^ 52) : Ieee.double.read (Ieee.double.word s k) = .number s k (-1074) := by
  have hs : Ieee.double.signWeight = 2 ^ 63 := by decide
  have hb : Ieee.double.binade = 2 ^ 52 := by decide
  have hl : Ieee.double.leastPlace = -1074 := by decide
  obtain ⟨h1, h2⟩ := word_div s (r := k) (by omega)
  unfold Ieee.Format.read
  simp only [hs, hb, hl, h1, h2, if_pos h]
  cases s <;> rfl
theorem read_norm (s : Bool) {q k : Nat} (h1 : 2 ^ 52 ≤ k) (h2 : k < 2 ^ 53) (hq : q ≤ 2045) : Ieee.double.read (Ieee.double.word s (q * 2 ^ 52 + k)) = .number s k (-1074 + (q : Nat)) := by
  have hs : Ieee.double.signWeight = 2 ^ 63 := by decide
  have hb : Ieee.double.binade = 2 ^ 52 := by decide
  have hl : Ieee.double.leastPlace = -1074 := by decide
  have hi : Ieee.double.infRung = 2047 * 2 ^ 52 := by decide
  obtain ⟨h3, h4⟩ := word_div s (r := q * 2 ^ 52 + k) (by omega)
  have e1 : ¬ (q * 2 ^ 52 + k < 2 ^ 52) := by omega
  have e2 : q * 2 ^ 52 + k < 2047 * 2 ^ 52 := by omega
  have e3 : (q * 2 ^ 52 + k) % 2 ^ 52 = k - 2 ^ 52 := by omega
  have e4 : (q * 2 ^ 52 + k) / 2 ^ 52 = q + 1 := by omega
  unfold Ieee.Format.read
  simp only [hs, hb, hl, hi, h3, h4, if_neg e1, if_pos e2, e3, e4]
  have e5 : 2 ^ 52 + (k - 2 ^ 52) = k := by omega
  rw [e5]
  cases s <;> simp

theorem cut_exact (s : Bool) {n drop c : Nat} (hn : n ≠ 0) (h : n = c * 2 ^ drop) : Ieee.Toward.even.cut s n drop = c := by
  have hc : c ≠ 0 := by rintro rfl; simp at h; exact hn h
  have hlog : drop ≤ n.log2 := by
    rw [Nat.le_log2 hn, h]
    exact Nat.le_mul_of_pos_left _ (Nat.pos_of_ne_zero hc)
  have hp : 0 < 2 ^ drop := Nat.pow_pos (by decide)
  unfold Ieee.Toward.cut
  simp only [show min drop (n.log2 + 2) = drop by omega, Nat.shiftLeft_eq, Nat.one_mul]
  have e1 : n / 2 ^ drop = c := by rw [h, Nat.mul_div_cancel _ hp]
  have e2 : n % 2 ^ drop = 0 := by rw [h, Nat.mul_mod_left]
  rw [e1, e2]
  have e3 : (decide (2 ^ drop < 2 * 0) || (2 ^ drop == 2 * 0 && c % 2 == 1)) = false := by
    have : ¬ 2 ^ drop = 0 := by omega
    simp [this]
  rw [e3]
  rfl

/-- WHAT FITS IS WRITTEN AS IT IS. 'mag' at 'place' is 'M' at 'k' places above 2^-1074, M below 2^53, the whole below 2^2098. -/
theorem nearest_exact (s : Bool) {mag : Nat} {place : Int} {M k : Nat} (hm : mag ≠ 0) (hp : -1074 ≤ place) (hM : M < 2 ^ 53) (hv : mag * 2 ^ (place + 1074).toNat = M * 2 ^ k) (hk : M * 2 ^ k < 2 ^ 2098) :
    ∃ n i, Ieee.double.read (Ieee.double.nearest s mag place) = .number s n i ∧ -1074 ≤ i ∧ n * 2 ^ (i + 1074).toNat = mag * 2 ^ (place + 1074).toNat := by
  have hb : Ieee.double.binade = 2 ^ 52 := by decide
  have hl : Ieee.double.leastPlace = -1074 := by decide
  have hi : Ieee.double.infRung = 2047 * 2 ^ 52 := by decide
  have hf : Ieee.double.fractionBits = 52 := rfl
  obtain ⟨p, rfl⟩ : ∃ p : Nat, place = (p : Int) - 1074 := ⟨(place + 1074).toNat, by omega⟩
  have e0 : ((p : Int) - 1074 + 1074).toNat = p := by omega
  rw [e0] at hv ⊢
  have hlo : 2 ^ mag.log2 ≤ mag := Nat.log2_self_le hm
  have hhi : mag < 2 ^ (mag.log2 + 1) := Nat.lt_log2_self
  generalize hlg : mag.log2 = l at *
  -- bits of the whole
  have hvlo : 2 ^ (l + p) ≤ M * 2 ^ k := by rw [← hv, Nat.pow_add]; exact Nat.mul_le_mul_right _ hlo
  have hsz : l + p < 2098 := (Nat.pow_lt_pow_iff_right (by decide : 1 < 2)).1 (Nat.lt_of_le_of_lt hvlo hk)
  have hkl : l + p < 53 + k := by
    refine (Nat.pow_lt_pow_iff_right (by decide : 1 < 2)).1 (Nat.lt_of_le_of_lt hvlo ?_)
    rw [Nat.pow_add]
    exact Nat.mul_lt_mul_of_pos_right hM (Nat.pow_pos (by decide))
  unfold Ieee.Format.nearest
  rw [if_neg hm]
  simp only [hl, hf, hlg, hb, hi]
  by_cases hsub : l + p ≤ 52
  · -- the last place is the least
    have e1 : max ((p : Int) - 1074 + (l : Nat) - (52 : Nat)) (-1074) = -1074 := by omega
    rw [e1]
    have e2 : ((p : Int) - 1074 - -1074).toNat = p := by omega
    have e3 : (-1074 - ((p : Int) - 1074)).toNat = 0 := by omega
    rw [e2, e3, cut_exact s (c := mag <<< p) (by rw [Nat.shiftLeft_eq]; exact Nat.mul_ne_zero hm (by have := Nat.pow_pos (n := p) (by decide : 0 < 2); omega)) (by simp)]
    simp only [Nat.shiftLeft_eq, show (-1074 - -1074 : Int).toNat = 0 by decide, Nat.zero_mul, Nat.zero_add]
    have hlt : mag * 2 ^ p < 2 ^ 53 := by
      have : mag * 2 ^ p < 2 ^ (l + 1) * 2 ^ p := Nat.mul_lt_mul_of_pos_right hhi (Nat.pow_pos (by decide))
      rw [← Nat.pow_add] at this
      exact Nat.lt_of_lt_of_le this (Nat.pow_le_pow_right (by decide) (by omega))
    rw [Nat.min_eq_left (by omega)]
    by_cases h52 : mag * 2 ^ p < 2 ^ 52
    · exact ⟨_, _, read_sub s h52, by omega, by simp⟩
    · have := read_norm s (q := 0) (k := mag * 2 ^ p) (by omega) hlt (by omega)
      simp only [Nat.zero_mul, Nat.zero_add] at this
      exact ⟨_, _, this, by omega, by simp⟩
  · have e1 : max ((p : Int) - 1074 + (l : Nat) - (52 : Nat)) (-1074) = ((l + p - 52 : Nat) : Int) - 1074 := by omega
    rw [e1]
    have hq : (((l + p - 52 : Nat) : Int) - 1074 - -1074).toNat = l + p - 52 := by omega
    rw [hq]
    -- what is kept
    have kept : ∃ c, Ieee.Toward.even.cut s (mag <<< ((p : Int) - 1074 - (((l + p - 52 : Nat) : Int) - 1074)).toNat) ((((l + p - 52 : Nat) : Int) - 1074) - ((p : Int) - 1074)).toNat = c ∧ c * 2 ^ (l + p - 52) = mag * 2 ^ p := by
      by_cases hle : l ≤ 52
      · have a1 : ((p : Int) - 1074 - (((l + p - 52 : Nat) : Int) - 1074)).toNat = 52 - l := by omega
        have a2 : ((((l + p - 52 : Nat) : Int) - 1074) - ((p : Int) - 1074)).toNat = 0 := by omega
        rw [a1, a2]
        refine ⟨mag <<< (52 - l), cut_exact s (by rw [Nat.shiftLeft_eq]; exact Nat.mul_ne_zero hm (by have := Nat.pow_pos (n := 52 - l) (by decide : 0 < 2); omega)) (by simp), ?_⟩
        rw [Nat.shiftLeft_eq, Nat.mul_assoc, ← Nat.pow_add]
        congr 2; omega
      · have a1 : ((p : Int) - 1074 - (((l + p - 52 : Nat) : Int) - 1074)).toNat = 0 := by omega
        have a2 : ((((l + p - 52 : Nat) : Int) - 1074) - ((p : Int) - 1074)).toNat = l - 52 := by omega
        rw [a1, a2]
        have hd : 2 ^ (l - 52) ∣ mag := by
          have h1 : 2 ^ (l - 52 + p) ∣ mag * 2 ^ p := by
            rw [hv]
            exact Nat.dvd_trans (Nat.pow_dvd_pow 2 (by omega)) (Nat.dvd_mul_left _ _)
          rw [Nat.pow_add] at h1
          exact Nat.dvd_of_mul_dvd_mul_right (Nat.pow_pos (by decide)) h1
        obtain ⟨c, hc⟩ := hd
        refine ⟨c, cut_exact s (by simpa using hm) (by simp only [Nat.shiftLeft_zero]; rw [hc, Nat.mul_comm]), ?_⟩
        rw [show l + p - 52 = l - 52 + p by omega, Nat.pow_add, ← Nat.mul_assoc, Nat.mul_comm c, ← hc]
    obtain ⟨c, hc1, hc2⟩ := kept
    rw [hc1]
    have hp2 : 0 < 2 ^ (l + p - 52) := Nat.pow_pos (by decide)
    have clo : 2 ^ 52 ≤ c := by
      refine Nat.le_of_mul_le_mul_right ?_ hp2
      rw [hc2, ← Nat.pow_add, show 52 + (l + p - 52) = l + p by omega, Nat.pow_add]
      exact Nat.mul_le_mul_right _ hlo
    have chi : c < 2 ^ 53 := by
      refine Nat.lt_of_mul_lt_mul_right (a := 2 ^ (l + p - 52)) ?_
      rw [hc2, ← Nat.pow_add, show 53 + (l + p - 52) = l + 1 + p by omega, Nat.pow_add]
      exact Nat.mul_lt_mul_of_pos_right hhi (Nat.pow_pos (by decide))
    rw [Nat.min_eq_left (by omega)]
    refine ⟨_, _, read_norm s clo chi (by omega), by omega, ?_⟩
    rw [show (-1074 + ((l + p - 52 : Nat) : Int) + 1074).toNat = l + p - 52 by omega]
    exact hc2
end Go.Proofs.Ytnccnmeecngopaa.Fw
