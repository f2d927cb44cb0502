/- Floats as whole numbers of 2^-1074: what is exact, the order of all floats. -/
import Derived.Test.YtnphdnokedhhkaaFwW
import Derived.Test.YtnphdnokedhhkaaFwAbs
set_option linter.unusedVariables false
set_option linter.unusedSimpArgs false
namespace Go.Proofs.Ytnphdnokedhhkaa.Fw
open Go

/-- the word of a sign and a rung is read back -/
theorem word_div (s : Bool) {r : Nat} (h : r < 2 ^ 63) : Ieee.double.word s r / 2 ^ 63 % 2 = s.toNat ∧ Ieee.double.word s r % 2 ^ 63 = r := by
  have hs : Ieee.double.signWeight = 2 ^ 63 := by decide
  unfold Ieee.Format.word
  cases s with
  | false => simp only [Bool.false_eq_true, if_false, Bool.toNat_false]; omega
  | true => simp only [if_true, hs, Bool.toNat_true]; omega

theorem read_sub (s : Bool) {k : Nat} (h : k < 2 ^ 52) : Ieee.double.read (Ieee.double.word s k) = .number s k (-1074) := by
  have hs : Ieee.double.signWeight = 2 ^ 63 := by decide
  have hb : Ieee.double.binade = 2 ^ 52 := by decide
  have hl : Ieee.double.leastPlace = -1074 := by decide
  obtain ⟨h1, h2⟩ := word_div s (r := k) (by omega)
  unfold Ieee.Format.read
  simp only [hs, hb, hl, h1, h2, if_pos h]
  cases s <;> rfl
theorem read_norm (s : Bool) {q k : Nat} (h1 : 2 ^ 52 ≤ k) (h2 : k < 2 ^ 53) (hq : q ≤ 2045) : Ieee.double.read (Ieee.double.word s (q * 2 ^ 52 + k)) = .number s k (-1074 + (q : Nat)) := by
  have hs : Ieee.double.signWeight = 2 ^ 63 := by decide
  have hb : Ieee.double.binade = 2 ^ 52 := by decide
  have hl : Ieee.double.leastPlace = -1074 := by decide
  have hi : Ieee.double.infRung = 2047 * 2 ^ 52 := by decide
  obtain ⟨h3, h4⟩ := word_div s (r := q * 2 ^ 52 + k) (by omega)
  have e1 : ¬ (q * 2 ^ 52 + k < 2 ^ 52) := by omega
  have e2 : q * 2 ^ 52 + k < 2047 * 2 ^ 52 := by omega
  have e3 : (q * 2 ^ 52 + k) % 2 ^ 52 = k - 2 ^ 52 := by omega
  have e4 : (q * 2 ^ 52 + k) / 2 ^ 52 = q + 1 := by omega
  unfold Ieee.Format.read
  simp only [hs, hb, hl, hi, h3, h4, if_neg e1, if_pos e2, e3, e4]
  have e5 : 2 ^ 52 + (k - 2 ^ 52) = k := by omega
  rw [e5]
  cases s <;> simp

theorem cut_exact (s : Bool) {n drop c : Nat} (hn : n ≠ 0) (h : n = c * 2 ^ drop) : Ieee.Toward.even.cut s n drop = c := by
  have hc : c ≠ 0 := by rintro rfl; simp at h; exact hn h
  have hlog : drop ≤ n.log2 := by
    rw [Nat.le_log2 hn, h]
    exact Nat.le_mul_of_pos_left _ (Nat.pos_of_ne_zero hc)
  have hp : 0 < 2 ^ drop := Nat.pow_pos (by decide)
  unfold Ieee.Toward.cut
  simp only [show min drop (n.log2 + 2) = drop by omega, Nat.shiftLeft_eq, Nat.one_mul]
  have e1 : n / 2 ^ drop = c := by rw [h, Nat.mul_div_cancel _ hp]
  have e2 : n % 2 ^ drop = 0 := by rw [h, Nat.mul_mod_left]
  rw [e1, e2]
  have e3 : (decide (2 ^ drop < 2 * 0) || (2 ^ drop == 2 * 0 && c % 2 == 1)) = false := by
    have : ¬ 2 ^ drop = 0 := by omega
    simp [this]
  rw [e3]
  rfl

/-- WHAT FITS IS WRITTEN AS IT IS. 'mag' at 'place' is 'M' at 'k' places above 2^-1074, M below 2^53, the whole below 2^2098. -/
theorem nearest_exact (s : Bool) {mag : Nat} {place : Int} {M k : Nat} (hm : mag ≠ 0) (hp : -1074 ≤ place) (hM : M < 2 ^ 53) (hv : mag * 2 ^ (place + 1074).toNat = M * 2 ^ k) (hk : M * 2 ^ k < 2 ^ 2098) :
    ∃ n i, Ieee.double.read (Ieee.double.nearest s mag place) = .number s n i ∧ -1074 ≤ i ∧ n * 2 ^ (i + 1074).toNat = mag * 2 ^ (place + 1074).toNat := by
  have hb : Ieee.double.binade = 2 ^ 52 := by decide
  have hl : Ieee.double.leastPlace = -1074 := by decide
  have hi : Ieee.double.infRung = 2047 * 2 ^ 52 := by decide
  have hf : Ieee.double.fractionBits = 52 := rfl
  obtain ⟨p, rfl⟩ : ∃ p : Nat, place = (p : Int) - 1074 := ⟨(place + 1074).toNat, by omega⟩
  have e0 : ((p : Int) - 1074 + 1074).toNat = p := by omega
  rw [e0] at hv ⊢
  have hlo : 2 ^ mag.log2 ≤ mag := Nat.log2_self_le hm
  have hhi : mag < 2 ^ (mag.log2 + 1) := Nat.lt_log2_self
  generalize hlg : mag.log2 = l at *
  -- bits of the whole
  have hvlo : 2 ^ (l + p) ≤ M * 2 ^ k := by rw [← hv, Nat.pow_add]; exact Nat.mul_le_mul_right _ hlo
  have hsz : l + p < 2098 := (Nat.pow_lt_pow_iff_right (by decide : 1 < 2)).1 (Nat.lt_of_le_of_lt hvlo hk)
  have hkl : l + p < 53 + k := by
    refine (Nat.pow_lt_pow_iff_right (by decide : 1 < 2)).1 (Nat.lt_of_le_of_lt hvlo ?_)
    rw [Nat.pow_add]
    exact Nat.mul_lt_mul_of_pos_right hM (Nat.pow_pos (by decide))
  unfold Ieee.Format.nearest
  rw [if_neg hm]
  simp only [hl, hf, hlg, hb, hi]
  by_cases hsub : l + p ≤ 52
  · -- the last place is the least
    have e1 : max ((p : Int) - 1074 + (l : Nat) - (52 : Nat)) (-1074) = -1074 := by omega
    rw [e1]
    have e2 : ((p : Int) - 1074 - -1074).toNat = p := by omega
    have e3 : (-1074 - ((p : Int) - 1074)).toNat = 0 := by omega
    rw [e2, e3, cut_exact s (c := mag <<< p) (by rw [Nat.shiftLeft_eq]; exact Nat.mul_ne_zero hm (by have := Nat.pow_pos (n := p) (by decide : 0 < 2); omega)) (by simp)]
    simp only [Nat.shiftLeft_eq, show (-1074 - -1074 : Int).toNat = 0 by decide, Nat.zero_mul, Nat.zero_add]
    have hlt : mag * 2 ^ p < 2 ^ 53 := by
      have : mag * 2 ^ p < 2 ^ (l + 1) * 2 ^ p := Nat.mul_lt_mul_of_pos_right hhi (Nat.pow_pos (by decide))
      rw [← Nat.pow_add] at this
      exact Nat.lt_of_lt_of_le this (Nat.pow_le_pow_right (by decide) (by omega))
    rw [Nat.min_eq_left (by omega)]
    by_cases h52 : mag * 2 ^ p < 2 ^ 52
    · exact ⟨_, _, read_sub s h52, by omega, by simp⟩
    · have := read_norm s (q := 0) (k := mag * 2 ^ p) (by omega) hlt (by omega)
      simp only [Nat.zero_mul, Nat.zero_add] at this
      exact ⟨_, _, this, by omega, by simp⟩
  · have e1 : max ((p : Int) - 1074 + (l : Nat) - (52 : Nat)) (-1074) = ((l + p - 52 : Nat) : Int) - 1074 := by omega
    rw [e1]
    have hq : (((l + p - 52 : Nat) : Int) - 1074 - -1074).toNat = l + p - 52 := by omega
    rw [hq]
    -- what is kept
    have kept : ∃ c, Ieee.Toward.even.cut s (mag <<< ((p : Int) - 1074 - (((l + p - 52 : Nat) : Int) - 1074)).toNat) ((((l + p - 52 : Nat) : Int) - 1074) - ((p : Int) - 1074)).toNat = c ∧ c * 2 ^ (l + p - 52) = mag * 2 ^ p := by
      by_cases hle : l ≤ 52
      · have a1 : ((p : Int) - 1074 - (((l + p - 52 : Nat) : Int) - 1074)).toNat = 52 - l := by omega
        have a2 : ((((l + p - 52 : Nat) : Int) - 1074) - ((p : Int) - 1074)).toNat = 0 := by omega
        rw [a1, a2]
        refine ⟨mag <<< (52 - l), cut_exact s (by rw [Nat.shiftLeft_eq]; exact Nat.mul_ne_zero hm (by have := Nat.pow_pos (n := 52 - l) (by decide : 0 < 2); omega)) (by simp), ?_⟩
        rw [Nat.shiftLeft_eq, Nat.mul_assoc, ← Nat.pow_add]
        congr 2; omega
      · have a1 : ((p : Int) - 1074 - (((l + p - 52 : Nat) : Int) - 1074)).toNat = 0 := by omega
        have a2 : ((((l + p - 52 : Nat) : Int) - 1074) - ((p : Int) - 1074)).toNat = l - 52 := by omega
        rw [a1, a2]
        have hd : 2 ^ (l - 52) ∣ mag := by
          have h1 : 2 ^ (l - 52 + p) ∣ mag * 2 ^ p := by
            rw [hv]
            exact Nat.dvd_trans (Nat.pow_dvd_pow 2 (by omega)) (Nat.dvd_mul_left _ _)
          rw [Nat.pow_add] at h1
          exact Nat.dvd_of_mul_dvd_mul_right (Nat.pow_pos (by decide)) h1
        obtain ⟨c, hc⟩ := hd
        refine ⟨c, cut_exact s (by simpa using hm) (by simp only [Nat.shiftLeft_zero]; rw [hc, Nat.mul_comm]), ?_⟩
        rw [show l + p - 52 = l - 52 + p by omega, Nat.pow_add, ← Nat.mul_assoc, Nat.mul_comm c, ← hc]
    obtain ⟨c, hc1, hc2⟩ := kept
    rw [hc1]
    have hp2 : 0 < 2 ^ (l + p - 52) := Nat.pow_pos (by decide)
    have clo : 2 ^ 52 ≤ c := by
      refine Nat.le_of_mul_le_mul_right ?_ hp2
      rw [hc2, ← Nat.pow_add, show 52 + (l + p - 52) = l + p by omega, Nat.pow_add]
      exact Nat.mul_le_mul_right _ hlo
    have chi : c < 2 ^ 53 := by
      refine Nat.lt_of_mul_lt_mul_right (a := 2 ^ (l + p - 52)) ?_
      rw [hc2, ← Nat.pow_add, show 53 + (l + p - 52) = l + 1 + p by omega, Nat.pow_add]
      exact Nat.mul_lt_mul_of_pos_right hhi (Nat.pow_pos (by decide))
    rw [Nat.min_eq_left (by omega)]
    refine ⟨_, _, read_norm s clo chi (by omega), by omega, ?_⟩
    rw [show (-1074 + ((l + p - 52 : Nat) : Int) + 1074).toNat = l + p - 52 by omega]
    exact hc2
end Go.Proofs.Ytnphdnokedhhkaa.Fw

set_option linter.unusedVariables false
set_option linter.unusedSimpArgs false
namespace Go.Proofs.Ytnphdnokedhhkaa.Fw
open Go

/-- a number, as so many times 2^-1074 -/
def fv (x : Nat) : Int := match Ieee.double.read x with | .number s n i => Ieee.signed s n (i + 1074).toNat | _ => 0
def fin (x : Nat) : Prop := ∃ s n i, Ieee.double.read x = .number s n i ∧ -1074 ≤ i
/-- is it a float? at most 53 digits, not too great -/
def fits (v : Nat) : Prop := (∃ M k, M < 2 ^ 53 ∧ v = M * 2 ^ k) ∧ v < 2 ^ 2098

theorem read_place {x : Nat} {s : Bool} {n : Nat} {i : Int} (h : Ieee.double.read x = .number s n i) : -1074 ≤ i := by
  have hl : Ieee.double.leastPlace = -1074 := by decide
  unfold Ieee.Format.read at h
  simp only [hl] at h
  split at h
  · cases h; omega
  · split at h
    · cases h; omega
    · split at h <;> cases h
theorem fin_num {x : Nat} (h : fin x) : isNaN x = false := by
  obtain ⟨s, n, i, h, _⟩ := h
  unfold isNaN
  rw [h]; rfl
theorem fv_of {x : Nat} {s : Bool} {n : Nat} {i : Int} (h : Ieee.double.read x = .number s n i) : fv x = Ieee.signed s n (i + 1074).toNat := by
  unfold fv; rw [h]
theorem signed_zero (s : Bool) (k : Nat) : Ieee.signed s 0 k = 0 := by unfold Ieee.signed; cases s <;> simp
theorem signed_eq (s : Bool) {m n k l : Nat} (h : m * 2 ^ k = n * 2 ^ l) : Ieee.signed s m k = Ieee.signed s n l := by
  unfold Ieee.signed; rw [Nat.shiftLeft_eq, Nat.shiftLeft_eq, h]

theorem write_exact (s : Bool) {mag : Nat} {place : Int} (hp : -1074 ≤ place) (hf : fits (mag * 2 ^ (place + 1074).toNat)) :
    fin (canon (Ieee.double.nearest s mag place)) ∧ fv (canon (Ieee.double.nearest s mag place)) = Ieee.signed s mag (place + 1074).toNat := by
  have fin_canon : ∀ w : Nat, fin w → canon w = w := by
    intro w h
    unfold canon; rw [fin_num h]; rfl
  by_cases hm : mag = 0
  · subst hm
    have hr : Ieee.double.read (Ieee.double.nearest s 0 place) = .number s 0 (-1074) := by
      unfold Ieee.Format.nearest
      rw [if_pos rfl]
      exact read_sub s (by decide)
    have hfin : fin (Ieee.double.nearest s 0 place) := ⟨_, _, _, hr, by omega⟩
    rw [fin_canon _ hfin]
    refine ⟨hfin, ?_⟩
    rw [fv_of hr, signed_zero, signed_zero]
  · obtain ⟨⟨M, k, hM, hv⟩, hk⟩ := hf
    obtain ⟨n, i, hr, hi, he⟩ := nearest_exact s hm hp hM hv (by rw [← hv]; exact hk)
    have hfin : fin (Ieee.double.nearest s mag place) := ⟨_, _, _, hr, hi⟩
    rw [fin_canon _ hfin]
    refine ⟨hfin, ?_⟩
    rw [fv_of hr]
    exact signed_eq s he

theorem signed_natAbs {t : Int} {s : Bool} (h : s = true ↔ t < 0 ∨ (t = 0 ∧ s = true)) (k : Nat) : Ieee.signed s t.natAbs k = t * 2 ^ k := by
  unfold Ieee.signed
  rw [Nat.shiftLeft_eq]
  cases s with
  | true =>
    simp only [if_true]
    rw [Int.natCast_mul]
    rcases h.1 rfl with h1 | ⟨h1, _⟩
    · rw [show ((t.natAbs : Nat) : Int) = -t by omega, Int.neg_mul, Int.neg_neg]; simp
    · subst h1; simp
  | false =>
    simp only [Bool.false_eq_true, if_false]
    have : 0 ≤ t := by
      rcases Int.lt_or_le t 0 with h1 | h1
      · have := h.2 (.inl h1); cases this
      · exact h1
    rw [Int.natCast_mul, show ((t.natAbs : Nat) : Int) = t by omega]; simp

theorem sum_exact {s t : Bool} {m n : Nat} {i j : Int} (hi : -1074 ≤ i) (hj : -1074 ≤ j) (hf : fits (Ieee.signed s m (i + 1074).toNat + Ieee.signed t n (j + 1074).toNat).natAbs) :
    ∃ d, (Ieee.Datum.number s m i).sum (.number t n j) = some d ∧ fin (canon (Ieee.double.write d)) ∧ fv (canon (Ieee.double.write d)) = Ieee.signed s m (i + 1074).toNat + Ieee.signed t n (j + 1074).toNat := by
  have e1 : (i + 1074).toNat = (i - min i j).toNat + (min i j + 1074).toNat := by omega
  have e2 : (j + 1074).toNat = (j - min i j).toNat + (min i j + 1074).toNat := by omega
  rw [e1, e2, signed_add, signed_add, ← Int.add_mul] at hf ⊢
  simp only [Ieee.Datum.sum]
  generalize ht : Ieee.signed s m (i - min i j).toNat + Ieee.signed t n (j - min i j).toNat = total at *
  refine ⟨_, rfl, ?_⟩
  have hna : (total * 2 ^ (min i j + 1074).toNat).natAbs = total.natAbs * 2 ^ (min i j + 1074).toNat := by
    rw [Int.natAbs_mul, Int.natAbs_pow]; rfl
  rw [hna] at hf
  obtain ⟨h1, h2⟩ := write_exact (if total = 0 then s && t else decide (total < 0)) (mag := total.natAbs) (place := min i j) (by omega) hf
  refine ⟨h1, ?_⟩
  show fv (canon (Ieee.double.nearest _ _ _)) = _
  rw [h2]
  refine signed_natAbs ?_ _
  by_cases h0 : total = 0
  · simp [h0]
  · simp [h0]

/-- A SUM THAT IS A FLOAT IS EXACT. -/
theorem fadd_exact {a b : Nat} (ha : fin a) (hb : fin b) (hf : fits (fv a + fv b).natAbs) : fin (fadd a b) ∧ fv (fadd a b) = fv a + fv b := by
  obtain ⟨s, m, i, h1, hi⟩ := ha
  obtain ⟨t, n, j, h2, hj⟩ := hb
  rw [fv_of h1, fv_of h2] at hf ⊢
  obtain ⟨d, h3, h4⟩ := sum_exact hi hj hf
  unfold fadd Ieee.Format.add
  rw [h1, h2, h3]
  exact h4
theorem fsub_exact {a b : Nat} (ha : fin a) (hb : fin b) (hf : fits (fv a - fv b).natAbs) : fin (fsub a b) ∧ fv (fsub a b) = fv a - fv b := by
  obtain ⟨s, m, i, h1, hi⟩ := ha
  obtain ⟨t, n, j, h2, hj⟩ := hb
  have hop : Ieee.signed (!t) n (j + 1074).toNat = - Ieee.signed t n (j + 1074).toNat := by unfold Ieee.signed; cases t <;> simp
  rw [fv_of h1, fv_of h2, Int.sub_eq_add_neg, ← hop] at hf ⊢
  obtain ⟨d, h3, h4⟩ := sum_exact hi hj hf
  unfold fsub Ieee.Format.sub
  rw [h1, h2]
  simp only [Ieee.Datum.opposite]
  rw [h3]
  exact h4
theorem feq_fin {a b : Nat} (ha : fin a) (hb : fin b) : feq a b = decide (fv a = fv b) := by
  obtain ⟨s, m, i, h1, hi⟩ := ha
  obtain ⟨t, n, j, h2, hj⟩ := hb
  have : feq a b = true ↔ fv a = fv b := by
    rw [feq_iff]
    unfold ford Ieee.Format.order
    rw [h1, h2, order_eq_at (c := -1074) ⟨hi, hj⟩, fv_of h1, fv_of h2]
    simp only [Int.sub_neg]
  by_cases h : fv a = fv b
  · rw [this.2 h]; simp [h]
  · have hn : ¬ feq a b = true := fun h' => h (this.1 h')
    simp only [Bool.not_eq_true] at hn
    rw [hn]; simp [h]
end Go.Proofs.Ytnphdnokedhhkaa.Fw

set_option linter.unusedVariables false
set_option linter.unusedSimpArgs false
set_option exponentiation.threshold 3000
namespace Go.Proofs.Ytnphdnokedhhkaa.Fw
open Go

theorem cmp_scale (x y : Int) {p : Int} (hp : 0 < p) : compare (x * p) (y * p) = compare x y := by
  have h1 : (x * p < y * p) ↔ x < y := Int.mul_lt_mul_right hp
  have h2 : (x * p = y * p) ↔ x = y := Int.mul_eq_mul_right_iff (by omega)
  show compareOfLessAndEq _ _ = compareOfLessAndEq _ _
  unfold compareOfLessAndEq
  simp only [h1, h2]
theorem ford_fin {a b : Nat} (ha : fin a) (hb : fin b) : ford a b = some (compare (fv a) (fv b)) := by
  obtain ⟨s, m, i, h1, hi⟩ := ha
  obtain ⟨t, n, j, h2, hj⟩ := hb
  have e1 : (i + 1074).toNat = (i - min i j).toNat + (min i j + 1074).toNat := by omega
  have e2 : (j + 1074).toNat = (j - min i j).toNat + (min i j + 1074).toNat := by omega
  rw [fv_of h1, fv_of h2, e1, e2, signed_add, signed_add, cmp_scale _ _ (Int.pow_pos (by decide))]
  unfold ford Ieee.Format.order
  rw [h1, h2]
  rfl
theorem cmp_cases (x y : Int) : (compare x y = .lt ↔ x < y) ∧ (compare x y = .eq ↔ x = y) ∧ (compare x y = .gt ↔ y < x) := by
  have e : compare x y = if x < y then Ordering.lt else if x = y then Ordering.eq else Ordering.gt := rfl
  rw [e]
  refine ⟨?_, ?_, ?_⟩ <;> (split <;> (try split)) <;> simp <;> omega
theorem flt_fin {a b : Nat} (ha : fin a) (hb : fin b) : flt a b = decide (fv a < fv b) := by
  unfold flt
  rw [ford_fin ha hb]
  obtain ⟨h1, _, _⟩ := cmp_cases (fv a) (fv b)
  by_cases h : fv a < fv b
  · rw [h1.2 h]; simp [h]
  · cases hc : compare (fv a) (fv b) with
    | lt => exact absurd (h1.1 hc) h
    | eq => simp [h]
    | gt => simp [h]
theorem fgt_fin {a b : Nat} (ha : fin a) (hb : fin b) : fgt a b = decide (fv b < fv a) := by
  unfold fgt
  rw [ford_fin ha hb]
  obtain ⟨_, _, h1⟩ := cmp_cases (fv a) (fv b)
  by_cases h : fv b < fv a
  · rw [h1.2 h]; simp [h]
  · cases hc : compare (fv a) (fv b) with
    | gt => exact absurd (h1.1 hc) h
    | eq => simp [h]
    | lt => simp [h]
theorem fle_fin {a b : Nat} (ha : fin a) (hb : fin b) : fle a b = decide (fv a ≤ fv b) := by
  unfold fle
  rw [ford_fin ha hb]
  obtain ⟨h1, h2, h3⟩ := cmp_cases (fv a) (fv b)
  cases hc : compare (fv a) (fv b) with
  | lt => have := h1.1 hc; simp; omega
  | eq => have := h2.1 hc; simp; omega
  | gt => have := h3.1 hc; simp; omega
theorem fge_fin {a b : Nat} (ha : fin a) (hb : fin b) : fge a b = decide (fv b ≤ fv a) := by
  unfold fge
  rw [ford_fin ha hb]
  obtain ⟨h1, h2, h3⟩ := cmp_cases (fv a) (fv b)
  cases hc : compare (fv a) (fv b) with
  | lt => have := h1.1 hc; simp; omega
  | eq => have := h2.1 hc; simp; omega
  | gt => have := h3.1 hc; simp; omega

theorem fits_small {v k : Nat} (hv : v < 2 ^ 53) (hk : k ≤ 2045) : fits (v * 2 ^ k) := by
  refine ⟨⟨v, k, hv, rfl⟩, ?_⟩
  have : v * 2 ^ k < 2 ^ 53 * 2 ^ k := Nat.mul_lt_mul_of_pos_right hv (Nat.pow_pos (by decide))
  rw [← Nat.pow_add] at this
  exact Nat.lt_of_lt_of_le this (Nat.pow_le_pow_right (by decide) (by omega))

/-- a whole number -/
theorem fofInt_exact {n : Int} (h : n.natAbs < 2 ^ 53) : fin (fofInt n) ∧ fv (fofInt n) = n * 2 ^ 1074 := by
  have e : FloatKind.f64.nearest n = Ieee.double.nearest (decide (n < 0)) n.natAbs 0 := rfl
  unfold fofInt
  rw [e]
  have hf : fits (n.natAbs * 2 ^ ((0 : Int) + 1074).toNat) := fits_small h (by decide)
  obtain ⟨h1, h2⟩ := write_exact (decide (n < 0)) (mag := n.natAbs) (place := 0) (by omega) hf
  refine ⟨h1, ?_⟩
  rw [h2, signed_natAbs (by simp)]
  first | done | rfl

theorem read_mag {x : Nat} {s : Bool} {n : Nat} {i : Int} (h : Ieee.double.read x = .number s n i) : n < 2 ^ 53 := by
  have hb : Ieee.double.binade = 2 ^ 52 := by decide
  unfold Ieee.Format.read at h
  simp only [hb] at h
  split at h
  · cases h; omega
  · split at h
    · cases h
      have : x % Ieee.double.signWeight % 2 ^ 52 < 2 ^ 52 := Nat.mod_lt _ (by decide)
      omega
    · split at h <;> cases h
theorem signed_abs (s : Bool) (n k : Nat) : (Ieee.signed s n k).natAbs = n * 2 ^ k := by
  unfold Ieee.signed
  rw [Nat.shiftLeft_eq]
  cases s <;> simp [Int.natAbs_mul, Int.natAbs_pow]
/-- nought, or not tiny -/
def stout (x : Nat) : Prop := fv x = 0 ∨ 2 ^ 600 ≤ (fv x).natAbs
theorem stout_place {x : Nat} {s : Bool} {n : Nat} {i : Int} (h : Ieee.double.read x = .number s n i) (hs : stout x) : n = 0 ∨ -530 ≤ i := by
  have hp := read_place h
  have hm := read_mag h
  rcases hs with h0 | h0
  · left
    rw [fv_of h] at h0
    have := signed_abs s n (i + 1074).toNat
    rw [h0] at this
    have hpos : 0 < 2 ^ (i + 1074).toNat := Nat.pow_pos (by decide)
    rcases Nat.eq_zero_or_pos n with hn | hn
    · exact hn
    · have := Nat.mul_pos hn hpos
      simp at *
      omega
  · right
    rw [fv_of h, signed_abs] at h0
    have h1 : 2 ^ 600 < 2 ^ 53 * 2 ^ (i + 1074).toNat := Nat.lt_of_le_of_lt h0 (Nat.mul_lt_mul_of_pos_right hm (Nat.pow_pos (by decide)))
    rw [← Nat.pow_add] at h1
    have := (Nat.pow_lt_pow_iff_right (by decide : 1 < 2)).1 h1
    omega

/-- A PRODUCT THAT IS A FLOAT IS EXACT. -/
theorem fmul_exact {a b : Nat} (ha : fin a) (hb : fin b) (sa : stout a) (sb : stout b) {V : Int} (hV : fv a * fv b = V * 2 ^ 1074) (hf : fits V.natAbs) : fin (fmul a b) ∧ fv (fmul a b) = V := by
  obtain ⟨s, m, i, h1, hi⟩ := ha
  obtain ⟨t, n, j, h2, hj⟩ := hb
  have p1 := stout_place h1 sa
  have p2 := stout_place h2 sb
  unfold fmul Ieee.Format.mul
  rw [h1, h2]
  simp only [Ieee.Datum.product, Option.map_some, cOpt, Ieee.Format.write]
  by_cases hz : m * n = 0
  · have hmn : m = 0 ∨ n = 0 := Nat.mul_eq_zero.1 hz
    have hv0 : V = 0 := by
      have h0 : fv a * fv b = 0 := by
        rw [fv_of h1, fv_of h2]
        rcases hmn with rfl | rfl
        · rw [signed_zero]; simp
        · rw [signed_zero]; simp
      rw [h0] at hV
      have hp : (2 : Int) ^ 1074 ≠ 0 := by have : (0 : Int) < 2 ^ 1074 := Int.pow_pos (by decide); omega
      rcases Int.mul_eq_zero.1 hV.symm with h | h
      · exact h
      · exact absurd h hp
    rw [hz, hv0]
    have hw : Ieee.double.nearest (s ^^ t) 0 (i + j) = Ieee.double.nearest (s ^^ t) 0 0 := by unfold Ieee.Format.nearest; rw [if_pos rfl, if_pos rfl]
    rw [hw]
    obtain ⟨q1, q2⟩ := write_exact (s ^^ t) (mag := 0) (place := 0) (by omega) (by rw [Nat.zero_mul]; exact ⟨⟨0, 0, by decide, rfl⟩, Nat.pow_pos (by decide)⟩)
    exact ⟨q1, by rw [q2, signed_zero]⟩
  · have hm : m ≠ 0 := fun h => hz (by rw [h, Nat.zero_mul])
    have hn : n ≠ 0 := fun h => hz (by rw [h, Nat.mul_zero])
    have hi2 : -530 ≤ i := p1.resolve_left hm
    have hj2 : -530 ≤ j := p2.resolve_left hn
    have key : Ieee.signed (s ^^ t) (m * n) (i + j + 1074).toNat = V := by
      have hp : (2 : Int) ^ 1074 ≠ 0 := by have : (0 : Int) < 2 ^ 1074 := Int.pow_pos (by decide); omega
      rw [← Int.mul_eq_mul_right_iff hp, ← hV, ← signed_add, fv_of h1, fv_of h2]
      have e : (i + j + 1074).toNat + 1074 = (i + 1074).toNat + (j + 1074).toNat := by omega
      rw [e]
      unfold Ieee.signed
      simp only [Nat.shiftLeft_eq, Nat.pow_add]
      have e2 : ((m * n * (2 ^ (i + 1074).toNat * 2 ^ (j + 1074).toNat) : Nat) : Int) = ((m * 2 ^ (i + 1074).toNat : Nat) : Int) * ((n * 2 ^ (j + 1074).toNat : Nat) : Int) := by
        rw [← Int.natCast_mul]; congr 1; simp only [Nat.mul_assoc, Nat.mul_left_comm, Nat.mul_comm]
      cases s <;> cases t <;> simp only [Bool.xor_false, Bool.xor_true, Bool.false_xor, Bool.not_true, Bool.not_false, Bool.false_eq_true, if_false, if_true, e2, Int.neg_mul, Int.mul_neg, Int.neg_neg]
    have hab : m * n * 2 ^ (i + j + 1074).toNat = V.natAbs := by rw [← key, signed_abs]
    obtain ⟨q1, q2⟩ := write_exact (s ^^ t) (mag := m * n) (place := i + j) (by omega) (by rw [hab]; exact hf)
    exact ⟨q1, by rw [q2]; exact key⟩
end Go.Proofs.Ytnphdnokedhhkaa.Fw

set_option linter.unusedVariables false
set_option linter.unusedSimpArgs false
set_option exponentiation.threshold 3000
namespace Go.Proofs.Ytnphdnokedhhkaa.Fw
open Go

theorem pow_pos2 (k : Nat) : (0 : Int) < 2 ^ k := Int.pow_pos (by decide)
theorem pow_ne (k : Nat) : (2 : Int) ^ k ≠ 0 := by have : (0 : Int) < 2 ^ k := Int.pow_pos (by decide); omega
theorem fits_zero : fits 0 := ⟨⟨0, 0, by decide, rfl⟩, Nat.pow_pos (by decide)⟩
theorem nought_written (s : Bool) (place : Int) : fin (canon (Ieee.double.nearest s 0 place)) ∧ fv (canon (Ieee.double.nearest s 0 place)) = 0 := by
  have hw : Ieee.double.nearest s 0 place = Ieee.double.nearest s 0 0 := by unfold Ieee.Format.nearest; rw [if_pos rfl, if_pos rfl]
  rw [hw]
  obtain ⟨q1, q2⟩ := write_exact s (mag := 0) (place := 0) (by omega) (by rw [Nat.zero_mul]; exact fits_zero)
  exact ⟨q1, by rw [q2, signed_zero]⟩

/-- A QUOTIENT BY A POWER OF TWO IS EXACT. -/
theorem fdiv_pow2 {a b k : Nat} (ha : fin a) (sa : stout a) (hb : Ieee.double.read b = .number false (2 ^ 52) ((k : Int) - 52)) (hk : k ≤ 400) {V : Int} (hV : fv a = V * 2 ^ k) (hf : fits V.natAbs) : fin (fdiv a b) ∧ fv (fdiv a b) = V := by
  obtain ⟨s, m, i, h1, hi⟩ := ha
  have p1 := stout_place h1 sa
  have hm53 := read_mag h1
  have hlog52 : (2 ^ 52 : Nat).log2 = 52 := by decide
  unfold fdiv Ieee.Format.div
  rw [h1, hb]
  have hne : (2 ^ 52 : Nat) ≠ 0 := by decide
  have hfb : Ieee.double.fractionBits + 2 = 54 := rfl
  simp only [Ieee.Datum.quotient, if_neg hne, Option.map_some, cOpt, Ieee.Format.write, hfb, hlog52]
  by_cases hm : m = 0
  · subst hm
    have hv0 : V = 0 := by
      rw [fv_of h1, signed_zero] at hV
      rcases Int.mul_eq_zero.1 hV.symm with h | h
      · exact h
      · exact absurd h (pow_ne k)
    have e : 2 * (0 <<< (54 + 52 - Nat.log2 0) / 2 ^ 52) + (0 <<< (54 + 52 - Nat.log2 0) % 2 ^ 52 != 0).toNat = 0 := by simp
    rw [e, hv0]
    exact nought_written _ _
  · have hi2 : -530 ≤ i := p1.resolve_left hm
    have hl : m.log2 ≤ 52 := by
      have := (Nat.log2_lt hm (k := 53)).2 hm53
      omega
    obtain ⟨I, hI⟩ : ∃ I : Nat, i + 1074 = I := ⟨(i + 1074).toNat, by omega⟩
    obtain ⟨w, hw⟩ : ∃ w : Nat, 54 + 52 - m.log2 = w + 52 := ⟨54 - m.log2, by omega⟩
    have hwle : w ≤ 54 := by omega
    have e1 : m <<< (w + 52) / 2 ^ 52 = m * 2 ^ w := by
      rw [Nat.shiftLeft_eq, Nat.pow_add, ← Nat.mul_assoc, Nat.mul_div_cancel _ (by decide)]
    have e2 : m <<< (w + 52) % 2 ^ 52 = 0 := by
      rw [Nat.shiftLeft_eq, Nat.pow_add, ← Nat.mul_assoc, Nat.mul_mod_left]
    rw [hw, e1, e2]
    have e3 : 2 * (m * 2 ^ w) + ((0 : Nat) != 0).toNat = m * 2 ^ (w + 1) := by
      simp [Nat.pow_succ]; rw [Nat.mul_comm 2, Nat.mul_assoc]
    rw [e3]
    have hP : (i - ((k : Int) - 52) - ((w + 52 : Nat) : Int) - 1 + 1074).toNat + (w + 1) + k = I := by omega
    generalize hplace : i - ((k : Int) - 52) - ((w + 52 : Nat) : Int) - 1 = place at *
    have hpl : -1074 ≤ place := by omega
    have hfa : Ieee.signed s m I = V * 2 ^ k := by rw [← hV, fv_of h1]; congr 1; omega
    have key : Ieee.signed (s ^^ false) (m * 2 ^ (w + 1)) (place + 1074).toNat = V := by
      rw [← Int.mul_eq_mul_right_iff (pow_ne k), ← hfa, ← signed_add, Bool.xor_false]
      refine signed_eq s ?_
      rw [Nat.mul_assoc, ← Nat.pow_add]
      congr 2; omega
    have hab : m * 2 ^ (w + 1) * 2 ^ (place + 1074).toNat = V.natAbs := by rw [← key, signed_abs]
    obtain ⟨q1, q2⟩ := write_exact (s ^^ false) (mag := m * 2 ^ (w + 1)) (place := place) hpl (by rw [hab]; exact hf)
    exact ⟨q1, by rw [q2]; exact key⟩

/-! ### parts of 4096 -/
/-- x is a number of m steps of 2^-12 -/
def grid (m : Int) (x : Nat) : Prop := fin x ∧ fv x = m * 2 ^ 1062
theorem grid_stout {m : Int} {x : Nat} (h : grid m x) : stout x := by
  unfold stout
  rw [h.2]
  by_cases hm : m = 0
  · left; simp [hm]
  · right
    rw [Int.natAbs_mul, Int.natAbs_pow]
    have h1 : 1 ≤ m.natAbs := by omega
    have h2 : (2 : Nat) ^ 600 ≤ 2 ^ 1062 := Nat.pow_le_pow_right (by decide) (by decide)
    calc (2 : Nat) ^ 600 ≤ 1 * 2 ^ 1062 := by rw [Nat.one_mul]; exact h2
      _ ≤ m.natAbs * 2 ^ 1062 := Nat.mul_le_mul_right _ h1
theorem fits_grid {m : Int} {k : Nat} (h : m.natAbs < 2 ^ 53) (hk : k ≤ 2045) : fits (m * 2 ^ k).natAbs := by
  rw [Int.natAbs_mul, Int.natAbs_pow]
  exact fits_small h hk
theorem grid_add {m n : Int} {x y : Nat} (hx : grid m x) (hy : grid n y) (h : (m + n).natAbs < 2 ^ 53) : grid (m + n) (fadd x y) := by
  have e : fv x + fv y = (m + n) * 2 ^ 1062 := by rw [hx.2, hy.2, Int.add_mul]
  obtain ⟨h1, h2⟩ := fadd_exact hx.1 hy.1 (by rw [e]; exact fits_grid h (by decide))
  exact ⟨h1, by rw [h2, e]⟩
theorem grid_sub {m n : Int} {x y : Nat} (hx : grid m x) (hy : grid n y) (h : (m - n).natAbs < 2 ^ 53) : grid (m - n) (fsub x y) := by
  have e : fv x - fv y = (m - n) * 2 ^ 1062 := by rw [hx.2, hy.2, Int.sub_mul]
  obtain ⟨h1, h2⟩ := fsub_exact hx.1 hy.1 (by rw [e]; exact fits_grid h (by decide))
  exact ⟨h1, by rw [h2, e]⟩
/-- so many parts of 4096 -/
theorem grid_parts {m : Int} (h : m.natAbs < 2 ^ 53) : grid m (fdiv (fofInt m) 4661225614328463360) := by
  obtain ⟨h1, h2⟩ := fofInt_exact h
  have hb : Ieee.double.read 4661225614328463360 = .number false (2 ^ 52) (((12 : Nat) : Int) - 52) := by decide +kernel
  have hst : stout (fofInt m) := by
    unfold stout
    rw [h2]
    by_cases hm : m = 0
    · left; simp [hm]
    · right
      rw [Int.natAbs_mul, Int.natAbs_pow]
      have h1 : 1 ≤ m.natAbs := by omega
      have h2 : (2 : Nat) ^ 600 ≤ 2 ^ 1074 := Nat.pow_le_pow_right (by decide) (by decide)
      calc (2 : Nat) ^ 600 ≤ 1 * 2 ^ 1074 := by rw [Nat.one_mul]; exact h2
        _ ≤ m.natAbs * 2 ^ 1074 := Nat.mul_le_mul_right _ h1
  have e : fv (fofInt m) = m * 2 ^ 1062 * 2 ^ 12 := by rw [h2, Int.mul_assoc, ← Int.pow_add]
  exact fdiv_pow2 h1 hst hb (by decide) e (fits_grid h (by decide))
theorem grid_eq {m n : Int} {x y : Nat} (hx : grid m x) (hy : grid n y) : feq x y = decide (m = n) := by
  rw [feq_fin hx.1 hy.1, hx.2, hy.2]
  simp only [Int.mul_eq_mul_right_iff (pow_ne 1062)]
theorem grid_lt {m n : Int} {x y : Nat} (hx : grid m x) (hy : grid n y) : flt x y = decide (m < n) := by
  rw [flt_fin hx.1 hy.1, hx.2, hy.2]
  simp only [Int.mul_lt_mul_right (pow_pos2 1062)]
theorem grid_gt {m n : Int} {x y : Nat} (hx : grid m x) (hy : grid n y) : fgt x y = decide (n < m) := by
  rw [fgt_fin hx.1 hy.1, hx.2, hy.2]
  simp only [Int.mul_lt_mul_right (pow_pos2 1062)]
theorem grid_le {m n : Int} {x y : Nat} (hx : grid m x) (hy : grid n y) : fle x y = decide (m ≤ n) := by
  rw [fle_fin hx.1 hy.1, hx.2, hy.2]
  simp only [Int.mul_le_mul_right (pow_pos2 1062)]
theorem grid_ge {m n : Int} {x y : Nat} (hx : grid m x) (hy : grid n y) : fge x y = decide (n ≤ m) := by
  rw [fge_fin hx.1 hy.1, hx.2, hy.2]
  simp only [Int.mul_le_mul_right (pow_pos2 1062)]
end Go.Proofs.Ytnphdnokedhhkaa.Fw

set_option linter.unusedVariables false
set_option linter.unusedSimpArgs false
set_option exponentiation.threshold 3000
namespace Go.Proofs.Ytnphdnokedhhkaa.Fw
open Go

/-- one more? -/
def oneMore (way : Ieee.Toward) (s : Bool) (n g : Nat) : Bool :=
  match way with
  | .even => decide (g < 2 * (n % g)) || (g == 2 * (n % g) && n / g % 2 == 1)
  | .down => s && n % g != 0
  | .up => !s && n % g != 0
  | .zero => false
/-- the gap is never cut short where that could be seen -/
theorem cut_eq (way : Ieee.Toward) (s : Bool) (n d : Nat) : way.cut s n d = n / 2 ^ d + (oneMore way s n (2 ^ d)).toNat := by
  by_cases h : d ≤ n.log2 + 2
  · unfold Ieee.Toward.cut oneMore
    simp only [show min d (n.log2 + 2) = d by omega, Nat.shiftLeft_eq, Nat.one_mul]
    cases way <;> rfl
  · have hmin : min d (n.log2 + 2) = n.log2 + 2 := by omega
    have hlt : n < 2 ^ (n.log2 + 1) := Nat.lt_log2_self
    have hg : 2 ^ (n.log2 + 2) = 2 * 2 ^ (n.log2 + 1) := by rw [Nat.pow_succ, Nat.mul_comm]
    have hd : 2 ^ (n.log2 + 2) ≤ 2 ^ d := Nat.pow_le_pow_right (by decide) (by omega)
    have a1 : n / 2 ^ (n.log2 + 2) = 0 := Nat.div_eq_of_lt (by omega)
    have a2 : n % 2 ^ (n.log2 + 2) = n := Nat.mod_eq_of_lt (by omega)
    have b1 : n / 2 ^ d = 0 := Nat.div_eq_of_lt (by omega)
    have b2 : n % 2 ^ d = n := Nat.mod_eq_of_lt (by omega)
    unfold Ieee.Toward.cut oneMore
    simp only [hmin, Nat.shiftLeft_eq, Nat.one_mul, a1, a2, b1, b2]
    generalize 2 ^ (n.log2 + 2) = g at *
    generalize 2 ^ d = g2 at *
    cases way with
    | even =>
      have c1 : ¬ g < 2 * n := by omega
      have c2 : ¬ g2 < 2 * n := by omega
      simp [c1, c2]
    | down => rfl
    | up => rfl
    | zero => rfl

theorem read_top {x : Nat} {s : Bool} {n : Nat} {i : Int} (h : Ieee.double.read x = .number s n i) : i ≤ 971 := by
  have hl : Ieee.double.leastPlace = -1074 := by decide
  have hi : Ieee.double.infRung = 2047 * 2 ^ 52 := by decide
  have hb : Ieee.double.binade = 2 ^ 52 := by decide
  unfold Ieee.Format.read at h
  simp only [hl, hi, hb] at h
  split at h
  · cases h; omega
  · split at h
    · rename_i h1 h2
      cases h
      have : x % Ieee.double.signWeight / 2 ^ 52 < 2047 := by omega
      omega
    · split at h <;> cases h
theorem fits_whole {c : Nat} (h : c ≤ 2 ^ 53) : fits (c * 2 ^ 1074) := by
  rcases Nat.lt_or_ge c (2 ^ 53) with h1 | h1
  · exact fits_small h1 (by decide)
  · have e : c = 2 ^ 52 * 2 := by omega
    rw [e, Nat.mul_assoc, ← Nat.pow_succ']
    exact fits_small (by decide) (by decide)

/-- what comes of making a number whole, as parts: sign, size -/
theorem fint_parts (way : Ieee.Toward) {a : Nat} {s : Bool} {m : Nat} {i : Int} (h : Ieee.double.read a = .number s m i) :
    fin (fint way a) ∧ fv (fint way a) = Ieee.signed s (way.cut s (m <<< i.toNat) (-i).toNat) 1074 := by
  have hp := read_place h
  have ht := read_top h
  have hm := read_mag h
  have hn : isNaN a = false := fin_num ⟨_, _, _, h, hp⟩
  unfold fint
  rw [hn, h]
  simp only [Bool.false_eq_true, if_false, Ieee.Datum.integral, Ieee.Format.write]
  have hf : fits (way.cut s (m <<< i.toNat) (-i).toNat * 2 ^ ((0 : Int) + 1074).toNat) := by
    show fits (_ * 2 ^ 1074)
    rw [cut_eq]
    rcases Int.lt_or_le i 0 with hi | hi
    · have e1 : i.toNat = 0 := by omega
      rw [e1, Nat.shiftLeft_zero]
      refine fits_whole ?_
      have h1 : m / 2 ^ (-i).toNat ≤ m / 2 := by
        refine Nat.div_le_div_left ?_ (by decide)
        calc 2 = 2 ^ 1 := rfl
          _ ≤ 2 ^ (-i).toNat := Nat.pow_le_pow_right (by decide) (by omega)
      have h2 : (oneMore way s m (2 ^ (-i).toNat)).toNat ≤ 1 := Bool.toNat_le _
      omega
    · have e1 : (-i).toNat = 0 := by omega
      rw [e1, Nat.pow_zero, Nat.div_one]
      have h2 : oneMore way s (m <<< i.toNat) 1 = false := by
        unfold oneMore
        cases way <;> simp [Nat.mod_one]
      rw [h2, Nat.shiftLeft_eq]
      simp only [Bool.toNat_false, Nat.add_zero]
      rw [Nat.mul_assoc, ← Nat.pow_add]
      exact fits_small hm (by omega)
  obtain ⟨q1, q2⟩ := write_exact s (place := 0) (by omega) hf
  exact ⟨q1, q2⟩

/-- the whole part of the size, and what is left -/
theorem parts_div {m : Nat} {i : Int} (hp : -1074 ≤ i) : m * 2 ^ (i + 1074).toNat / 2 ^ 1074 = m <<< i.toNat / 2 ^ (-i).toNat ∧ m * 2 ^ (i + 1074).toNat % 2 ^ 1074 = (m <<< i.toNat % 2 ^ (-i).toNat) * 2 ^ (1074 - (-i).toNat) := by
  rcases Int.lt_or_le i 0 with hi | hi
  · obtain ⟨d, hd⟩ : ∃ d : Nat, (-i).toNat = d ∧ d ≤ 1074 ∧ (i + 1074).toNat = 1074 - d ∧ i.toNat = 0 := ⟨(-i).toNat, rfl, by omega, by omega, by omega⟩
    obtain ⟨h1, h2, h3, h4⟩ := hd
    rw [h1, h3, h4, Nat.shiftLeft_zero]
    have e : (2 : Nat) ^ 1074 = 2 ^ d * 2 ^ (1074 - d) := by rw [← Nat.pow_add]; congr 1; omega
    rw [e, Nat.mul_div_mul_right _ _ (Nat.pow_pos (by decide)), Nat.mul_mod_mul_right]
    exact ⟨rfl, rfl⟩
  · have h1 : (-i).toNat = 0 := by omega
    have h2 : (i + 1074).toNat = i.toNat + 1074 := by omega
    rw [h1, h2, Nat.pow_add, ← Nat.mul_assoc, Nat.mul_div_cancel _ (Nat.pow_pos (by decide)), Nat.mul_mod_left, Nat.shiftLeft_eq, Nat.pow_zero, Nat.div_one, Nat.mod_one]
    simp

/-- made whole downwards -/
theorem fint_down {a : Nat} (ha : fin a) : fin (fint .down a) ∧ fv (fint .down a) = fv a / 2 ^ 1074 * 2 ^ 1074 := by
  obtain ⟨s, m, i, h, hp⟩ := ha
  obtain ⟨q1, q2⟩ := fint_parts .down h
  refine ⟨q1, ?_⟩
  obtain ⟨d1, d2⟩ := parts_div (m := m) hp
  have es : ∀ (s : Bool) (c k : Nat), Ieee.signed s c k = if s = true then -((c * 2 ^ k : Nat) : Int) else ((c * 2 ^ k : Nat) : Int) := by
    intro s c k
    unfold Ieee.signed
    rw [Nat.shiftLeft_eq]
  rw [q2, fv_of h, cut_eq, es, es]
  unfold oneMore
  generalize hN : m * 2 ^ (i + 1074).toNat = N at *
  generalize hg : (2 : Nat) ^ 1074 = g at *
  have hgpos : 0 < g := by rw [← hg]; exact Nat.pow_pos (by decide)
  have hcast : (2 : Int) ^ 1074 = (g : Int) := by rw [← hg]; simp
  rw [hcast, ← d1]
  have hz : (m <<< i.toNat % 2 ^ (-i).toNat != 0) = (N % g != 0) := by
    rw [d2]
    have : 0 < 2 ^ (1074 - (-i).toNat) := Nat.pow_pos (by decide)
    by_cases h0 : m <<< i.toNat % 2 ^ (-i).toNat = 0
    · rw [h0, Nat.zero_mul]
    · have h1 : (m <<< i.toNat % 2 ^ (-i).toNat) * 2 ^ (1074 - (-i).toNat) ≠ 0 := Nat.mul_ne_zero h0 (by omega)
      rw [bne_iff_ne.2 h0, bne_iff_ne.2 h1]
  simp only [hz]
  have hdiv : N / g * g + N % g = N := Nat.div_add_mod' N g
  have hlt : N % g < g := Nat.mod_lt _ hgpos
  have hmul : (g : Int) * ((N / g : Nat) : Int) = ((N / g * g : Nat) : Int) := by rw [Int.natCast_mul, Int.mul_comm]
  cases s with
  | false => simp
  | true =>
    simp only [Bool.true_and, if_true]
    by_cases h0 : N % g = 0
    · have key : (-(N : Int)) / (g : Int) = -((N / g : Nat) : Int) := by
        refine ((Int.ediv_emod_unique (r := 0) (by omega)).2 ⟨?_, by omega, by omega⟩).1
        rw [Int.mul_neg, hmul]
        omega
      simp only [h0, bne_self_eq_false, Bool.toNat_false, Nat.add_zero]
      rw [key, Int.neg_mul, Int.natCast_mul]
    · have hb : (N % g != 0) = true := by simp [h0]
      have key : (-(N : Int)) / (g : Int) = -((N / g + 1 : Nat) : Int) := by
        refine ((Int.ediv_emod_unique (r := (g : Int) - (N % g : Nat)) (by omega)).2 ⟨?_, by omega, by omega⟩).1
        rw [Int.mul_neg, Int.natCast_add, Int.mul_add, hmul]
        omega
      rw [hb, key, Int.neg_mul, Int.natCast_mul]
      rfl
end Go.Proofs.Ytnphdnokedhhkaa.Fw

set_option linter.unusedVariables false
set_option linter.unusedSimpArgs false
set_option exponentiation.threshold 3000
namespace Go.Proofs.Ytnphdnokedhhkaa.Fw
open Go

theorem read_flip (a : Nat) {s : Bool} {n : Nat} {i : Int} (h : Ieee.double.read a = .number s n i) : Ieee.double.read (a ^^^ 2 ^ 63) = .number (!s) n i := by
  have hs : Ieee.double.signWeight = 2 ^ 63 := by decide
  have e1 : (a ^^^ 2 ^ 63) % 2 ^ 63 = a % 2 ^ 63 := by rw [Nat.xor_mod_two_pow, Nat.mod_self, Nat.xor_zero]
  have e2 : ((a ^^^ 2 ^ 63) / 2 ^ 63 % 2 == 1) = !(a / 2 ^ 63 % 2 == 1) := by
    have h1 : (a ^^^ 2 ^ 63) / 2 ^ 63 = (a / 2 ^ 63) ^^^ 1 := by
      rw [← Nat.shiftRight_eq_div_pow, ← Nat.shiftRight_eq_div_pow, Nat.shiftRight_xor_distrib]
      rfl
    have h2 : ((a / 2 ^ 63) ^^^ 1) % 2 = (a / 2 ^ 63 % 2) ^^^ 1 := by
      have := Nat.xor_mod_two_pow (a := a / 2 ^ 63) (b := 1) (n := 1)
      simpa using this
    rw [h1, h2]
    rcases Nat.mod_two_eq_zero_or_one (a / 2 ^ 63) with h3 | h3 <;> rw [h3] <;> rfl
  unfold Ieee.Format.read at h ⊢
  simp only [hs, e1, e2] at h ⊢
  split at h
  · rename_i c; rw [if_pos c]; cases h; rfl
  · rename_i c
    rw [if_neg c]
    split at h
    · rename_i c2; rw [if_pos c2]; cases h; rfl
    · split at h <;> cases h
theorem fneg_fin {a : Nat} (ha : fin a) : fin (fneg a) ∧ fv (fneg a) = - fv a := by
  obtain ⟨s, m, i, h, hp⟩ := ha
  have h2 := read_flip a h
  have hf : fin (a ^^^ 2 ^ 63) := ⟨_, _, _, h2, hp⟩
  have hc : fneg a = a ^^^ 2 ^ 63 := by
    unfold fneg canon
    rw [fin_num hf]; rfl
  rw [hc]
  refine ⟨hf, ?_⟩
  rw [fv_of h2, fv_of h]
  unfold Ieee.signed
  cases s <;> simp
theorem read_low (a : Nat) {s : Bool} {n : Nat} {i : Int} (h : Ieee.double.read a = .number s n i) : Ieee.double.read (a % 2 ^ 63) = .number false n i := by
  have hs : Ieee.double.signWeight = 2 ^ 63 := by decide
  have e1 : a % 2 ^ 63 % 2 ^ 63 = a % 2 ^ 63 := Nat.mod_mod _ _
  have e2 : (a % 2 ^ 63 / 2 ^ 63 % 2 == 1) = false := by
    rw [Nat.div_eq_of_lt (Nat.mod_lt _ (by decide))]; rfl
  unfold Ieee.Format.read at h ⊢
  simp only [hs, e1, e2] at h ⊢
  split at h
  · rename_i c; rw [if_pos c]; cases h; rfl
  · rename_i c
    rw [if_neg c]
    split at h
    · rename_i c2; rw [if_pos c2]; cases h; rfl
    · split at h <;> cases h
/-- without its sign (math.Abs: 'absF' where it is spoken for) -/
theorem abs_fin {a : Nat} (ha : fin a) : fin (a % 2 ^ 63) ∧ fv (a % 2 ^ 63) = ((fv a).natAbs : Int) := by
  obtain ⟨s, m, i, h, hp⟩ := ha
  have h2 := read_low a h
  refine ⟨⟨_, _, _, h2, hp⟩, ?_⟩
  rw [fv_of h2, fv_of h, signed_abs]
  unfold Ieee.signed
  rw [Nat.shiftLeft_eq]
  rfl

/-- to an integer, towards nought -/
theorem toInt_fin {a : Nat} (ha : fin a) : (Ieee.double.read a).toInt .zero = some ((fv a).tdiv (2 ^ 1074)) := by
  obtain ⟨s, m, i, h, hp⟩ := ha
  obtain ⟨d1, _⟩ := parts_div (m := m) hp
  rw [h, fv_of h]
  unfold Ieee.Datum.toInt
  simp only [Ieee.Datum.integral]
  rw [cut_eq]
  simp only [oneMore, Bool.toNat_false, Nat.add_zero]
  rw [← d1]
  unfold Ieee.signed
  simp only [Nat.shiftLeft_eq, Nat.pow_zero, Nat.mul_one]
  generalize m * 2 ^ (i + 1074).toNat = N
  have hcast : (2 : Int) ^ 1074 = ((2 ^ 1074 : Nat) : Int) := by simp
  rw [hcast]
  generalize (2 : Nat) ^ 1074 = g
  cases s with
  | false => simp only [Bool.false_eq_true, if_false, Option.some.injEq]; rfl
  | true => simp only [if_true, Option.some.injEq]; rw [Int.neg_tdiv]; rfl

/-- to the nearest whole number, between two to the even one; of a size -/
def rne (N g : Nat) : Nat := N / g + (decide (g < 2 * (N % g)) || (g == 2 * (N % g) && N / g % 2 == 1)).toNat
theorem fint_even {a : Nat} (ha : fin a) : fin (fint .even a) ∧ (fv (fint .even a)).natAbs = rne (fv a).natAbs (2 ^ 1074) * 2 ^ 1074 ∧ (0 ≤ fv a → 0 ≤ fv (fint .even a)) ∧ (fv a ≤ 0 → fv (fint .even a) ≤ 0) := by
  obtain ⟨s, m, i, h, hp⟩ := ha
  obtain ⟨q1, q2⟩ := fint_parts .even h
  obtain ⟨d1, d2⟩ := parts_div (m := m) hp
  have hcut : Ieee.Toward.even.cut s (m <<< i.toNat) (-i).toNat = rne (fv a).natAbs (2 ^ 1074) := by
    rw [cut_eq, fv_of h, signed_abs]
    unfold oneMore rne
    rw [d1, d2]
    have hd : (-i).toNat ≤ 1074 := by omega
    have hw : 2 ^ 1074 = 2 ^ (-i).toNat * 2 ^ (1074 - (-i).toNat) := by rw [← Nat.pow_add]; congr 1; omega
    rw [hw]
    generalize m <<< i.toNat = n
    have hpos : 0 < 2 ^ (1074 - (-i).toNat) := Nat.pow_pos (by decide)
    generalize 2 ^ (1074 - (-i).toNat) = w at *
    generalize 2 ^ (-i).toNat = g at *
    have e1 : (g * w < 2 * (n % g * w)) ↔ (g < 2 * (n % g)) := by
      rw [← Nat.mul_assoc]; exact Nat.mul_lt_mul_right hpos
    have e2 : (g * w = 2 * (n % g * w)) ↔ (g = 2 * (n % g)) := by
      rw [← Nat.mul_assoc]
      exact ⟨fun h => Nat.eq_of_mul_eq_mul_right hpos h, fun h => by rw [← h]⟩
    have e3 : (g * w == 2 * (n % g * w)) = (g == 2 * (n % g)) := by
      rw [Bool.eq_iff_iff, beq_iff_eq, beq_iff_eq]; exact e2
    simp only [e1, e3]
  rw [hcut] at q2
  refine ⟨q1, by rw [q2, signed_abs], fun h0 => ?_, fun h0 => ?_⟩
  · rw [q2]
    rw [fv_of h] at h0
    unfold Ieee.signed at h0 ⊢
    cases s with
    | false => simp only [Bool.false_eq_true, if_false]; omega
    | true =>
      simp only [if_true] at h0 ⊢
      have hz : m <<< (i + 1074).toNat = 0 := by omega
      have : rne (fv a).natAbs (2 ^ 1074) = 0 := by
        rw [fv_of h, signed_abs, ← Nat.shiftLeft_eq, hz]
        rfl
      rw [this]; simp
  · rw [q2]
    rw [fv_of h] at h0
    unfold Ieee.signed at h0 ⊢
    cases s with
    | true => simp only [if_true]; omega
    | false =>
      simp only [Bool.false_eq_true, if_false] at h0 ⊢
      have hz : m <<< (i + 1074).toNat = 0 := by omega
      have : rne (fv a).natAbs (2 ^ 1074) = 0 := by
        rw [fv_of h, signed_abs, ← Nat.shiftLeft_eq, hz]
        rfl
      rw [this]; simp
end Go.Proofs.Ytnphdnokedhhkaa.Fw

set_option linter.unusedVariables false
set_option linter.unusedSimpArgs false
set_option exponentiation.threshold 3000
namespace Go.Proofs.Ytnphdnokedhhkaa.Fw
open Go

theorem oneMore_scale (way : Ieee.Toward) (s : Bool) (n g w : Nat) (hw : 0 < w) : oneMore way s (n * w) (g * w) = oneMore way s n g := by
  have hm : n * w % (g * w) = n % g * w := Nat.mul_mod_mul_right ..
  have hd : n * w / (g * w) = n / g := Nat.mul_div_mul_right _ _ hw
  have e1 : (g * w < 2 * (n % g * w)) ↔ (g < 2 * (n % g)) := by
    rw [← Nat.mul_assoc]; exact Nat.mul_lt_mul_right hw
  have e2 : (g * w = 2 * (n % g * w)) ↔ (g = 2 * (n % g)) := by
    rw [← Nat.mul_assoc]
    exact ⟨fun h => Nat.eq_of_mul_eq_mul_right hw h, fun h => by rw [← h]⟩
  have e3 : (g * w == 2 * (n % g * w)) = (g == 2 * (n % g)) := by
    rw [Bool.eq_iff_iff, beq_iff_eq, beq_iff_eq]; exact e2
  have e4 : (n % g * w != 0) = (n % g != 0) := by
    rw [Bool.eq_iff_iff, bne_iff_ne, bne_iff_ne]
    constructor
    · intro h h0; exact h (by rw [h0, Nat.zero_mul])
    · intro h; exact Nat.mul_ne_zero h (by omega)
  unfold oneMore
  rw [hm, hd]
  cases way with
  | even => simp only [e1, e3]
  | down => simp only [e4]
  | up => simp only [e4]
  | zero => rfl
theorem cut_scale (way : Ieee.Toward) (s : Bool) (n : Nat) {d1 d2 w : Nat} (hw : 0 < w) (h : 2 ^ d1 = 2 ^ d2 * w) : way.cut s (n * w) d1 = way.cut s n d2 := by
  rw [cut_eq, cut_eq, h, oneMore_scale _ _ _ _ _ hw, Nat.mul_div_mul_right _ _ hw]
theorem log2_shift {c : Nat} (hc : c ≠ 0) (t : Nat) : (c * 2 ^ t).log2 = c.log2 + t := by
  have h0 : c * 2 ^ t ≠ 0 := Nat.mul_ne_zero hc (by have := Nat.pow_pos (n := t) (by decide : 0 < 2); omega)
  have h1 : 2 ^ (c.log2 + t) ≤ c * 2 ^ t := by rw [Nat.pow_add]; exact Nat.mul_le_mul_right _ (Nat.log2_self_le hc)
  have h2 : c * 2 ^ t < 2 ^ (c.log2 + t + 1) := by
    rw [show c.log2 + t + 1 = c.log2 + 1 + t by omega, Nat.pow_add]
    exact Nat.mul_lt_mul_of_pos_right Nat.lt_log2_self (Nat.pow_pos (by decide))
  have h3 := (Nat.le_log2 h0).2 h1
  have h4 := (Nat.log2_lt h0).2 h2
  omega
/-- THE SAME NUMBER AT ANOTHER PLACE -/
theorem nearest_shift (s : Bool) (c t : Nat) (place : Int) : Ieee.double.nearest s (c * 2 ^ t) place = Ieee.double.nearest s c (place + t) := by
  by_cases hc : c = 0
  · subst hc
    unfold Ieee.Format.nearest
    rw [Nat.zero_mul, if_pos rfl, if_pos rfl]
  · have h0 : c * 2 ^ t ≠ 0 := Nat.mul_ne_zero hc (by have := Nat.pow_pos (n := t) (by decide : 0 < 2); omega)
    unfold Ieee.Format.nearest
    rw [if_neg hc, if_neg h0]
    simp only [log2_shift hc]
    have e : place + ((c.log2 + t : Nat) : Int) - (Ieee.double.fractionBits : Nat) = place + (t : Int) + (c.log2 : Nat) - (Ieee.double.fractionBits : Nat) := by omega
    rw [e]
    generalize max (place + (t : Int) + (c.log2 : Nat) - (Ieee.double.fractionBits : Nat)) Ieee.double.leastPlace = last
    congr 3
    rcases Int.lt_or_le last place with h | h
    · have a1 : (last - place).toNat = 0 := by omega
      have a2 : (last - (place + t)).toNat = 0 := by omega
      have a3 : (place + t - last).toNat = t + (place - last).toNat := by omega
      rw [a1, a2, a3, Nat.shiftLeft_eq, Nat.shiftLeft_eq, Nat.pow_add, Nat.mul_assoc]
    · have a0 : (place - last).toNat = 0 := by omega
      rw [a0, Nat.shiftLeft_zero]
      rcases Int.lt_or_le last (place + t) with h2 | h2
      · have a1 : (last - (place + t)).toNat = 0 := by omega
        have a2 : t = (place + t - last).toNat + (last - place).toNat := by omega
        rw [a1, Nat.shiftLeft_eq]
        have a3 : c * 2 ^ t = c * 2 ^ (place + t - last).toNat * 2 ^ (last - place).toNat := by
          rw [Nat.mul_assoc, ← Nat.pow_add]; congr 2
        rw [a3]
        exact cut_scale _ _ _ (Nat.pow_pos (by decide)) (by simp)
      · have a1 : (place + t - last).toNat = 0 := by omega
        rw [a1, Nat.shiftLeft_zero]
        refine cut_scale _ _ _ (Nat.pow_pos (by decide)) ?_
        rw [← Nat.pow_add]; congr 1; omega

/-- TIMES A POWER OF TWO: exact, even of the least numbers, if it is not too great. -/
theorem fmul_pow2 {a b k : Nat} (ha : fin a) (hb : Ieee.double.read b = .number false (2 ^ 52) ((k : Int) - 52)) (hf : (fv a).natAbs * 2 ^ k < 2 ^ 2098) : fin (fmul a b) ∧ fv (fmul a b) = fv a * 2 ^ k := by
  obtain ⟨s, m, i, h1, hi⟩ := ha
  have hm := read_mag h1
  unfold fmul Ieee.Format.mul
  rw [h1, hb]
  simp only [Ieee.Datum.product, Option.map_some, cOpt, Ieee.Format.write]
  rw [nearest_shift, show i + ((k : Int) - 52) + ((52 : Nat) : Int) = i + k by omega, Bool.xor_false]
  have e : (i + k + 1074).toNat = (i + 1074).toNat + k := by omega
  rw [fv_of h1, signed_abs] at hf
  obtain ⟨q1, q2⟩ := write_exact s (mag := m) (place := i + k) (by omega) (by
    rw [e, Nat.pow_add, ← Nat.mul_assoc]
    exact ⟨⟨m, (i + 1074).toNat + k, hm, by rw [Nat.pow_add, Nat.mul_assoc]⟩, hf⟩)
  refine ⟨q1, ?_⟩
  rw [q2, e, signed_add, fv_of h1]
end Go.Proofs.Ytnphdnokedhhkaa.Fw

set_option linter.unusedVariables false
set_option linter.unusedSimpArgs false
set_option exponentiation.threshold 4000
namespace Go.Proofs.Ytnphdnokedhhkaa.Fw
open Go
/-- a datum of the other sign; without its sign -/
def dneg : Ieee.Datum → Ieee.Datum
  | .number s n i => .number (!s) n i
  | .infinity s => .infinity (!s)
  | .nan s f => .nan (!s) f
def dabs : Ieee.Datum → Ieee.Datum
  | .number _ n i => .number false n i
  | .infinity _ => .infinity false
  | .nan _ f => .nan false f
theorem read_neg (a : Nat) : Ieee.double.read (a ^^^ 2 ^ 63) = dneg (Ieee.double.read a) := by
  have hs : Ieee.double.signWeight = 2 ^ 63 := by decide
  have e1 : (a ^^^ 2 ^ 63) % 2 ^ 63 = a % 2 ^ 63 := by rw [Nat.xor_mod_two_pow, Nat.mod_self, Nat.xor_zero]
  have e2 : ((a ^^^ 2 ^ 63) / 2 ^ 63 % 2 == 1) = !(a / 2 ^ 63 % 2 == 1) := by
    have h1 : (a ^^^ 2 ^ 63) / 2 ^ 63 = (a / 2 ^ 63) ^^^ 1 := by
      rw [← Nat.shiftRight_eq_div_pow, ← Nat.shiftRight_eq_div_pow, Nat.shiftRight_xor_distrib]
      rfl
    have h2 : ((a / 2 ^ 63) ^^^ 1) % 2 = (a / 2 ^ 63 % 2) ^^^ 1 := by
      have := Nat.xor_mod_two_pow (a := a / 2 ^ 63) (b := 1) (n := 1)
      simpa using this
    rw [h1, h2]
    rcases Nat.mod_two_eq_zero_or_one (a / 2 ^ 63) with h3 | h3 <;> rw [h3] <;> rfl
  unfold Ieee.Format.read
  simp only [hs, e1, e2]
  split
  · rfl
  · split
    · rfl
    · split <;> rfl
theorem read_abs (a : Nat) : Ieee.double.read (a % 2 ^ 63) = dabs (Ieee.double.read a) := by
  have hs : Ieee.double.signWeight = 2 ^ 63 := by decide
  have e1 : a % 2 ^ 63 % 2 ^ 63 = a % 2 ^ 63 := Nat.mod_mod _ _
  have e2 : (a % 2 ^ 63 / 2 ^ 63 % 2 == 1) = false := by
    rw [Nat.div_eq_of_lt (Nat.mod_lt _ (by decide))]; rfl
  unfold Ieee.Format.read
  simp only [hs, e1, e2]
  split
  · rfl
  · split
    · rfl
    · split <;> rfl
/-- where a float stands among all -/
def drk : Ieee.Datum → Int
  | .number s n i => Ieee.signed s n (i + 1074).toNat
  | .infinity s => if s then -2 ^ 3000 else 2 ^ 3000
  | .nan _ _ => 0
def rk (x : Nat) : Int := drk (Ieee.double.read x)
theorem rk_fin {x : Nat} (h : fin x) : rk x = fv x := by
  obtain ⟨s, n, i, h, hi⟩ := h
  unfold rk; rw [fv_of h, h]; rfl
theorem signed_small {x : Nat} {s : Bool} {n : Nat} {i : Int} (h : Ieee.double.read x = .number s n i) : (Ieee.signed s n (i + 1074).toNat).natAbs < 2 ^ 3000 := by
  rw [signed_abs]
  have h1 := read_mag h
  have h2 := read_top h
  have h3 : 2 ^ (i + 1074).toNat ≤ 2 ^ 2045 := Nat.pow_le_pow_right (by decide) (by omega)
  calc n * 2 ^ (i + 1074).toNat ≤ 2 ^ 53 * 2 ^ 2045 := Nat.mul_le_mul (Nat.le_of_lt h1) h3
    _ < 2 ^ 3000 := by rw [← Nat.pow_add]; exact Nat.pow_lt_pow_right (by decide) (by decide)
theorem rk_small {x : Nat} (h : fin x) : (rk x).natAbs < 2 ^ 3000 := by
  rw [rk_fin h]
  obtain ⟨s, n, i, h, hi⟩ := h
  rw [fv_of h]
  exact signed_small h
theorem cmp_lt {x y : Int} (h : x < y) : compare x y = .lt := (cmp_cases x y).1.2 h
theorem cmp_gt {x y : Int} (h : y < x) : compare x y = .gt := (cmp_cases x y).2.2.2 h
theorem big_pos : (0 : Int) < 2 ^ 3000 := Int.pow_pos (by decide)
theorem abs_lt {v : Int} (h : v.natAbs < 2 ^ 3000) : -2 ^ 3000 < v ∧ v < 2 ^ 3000 := by
  have : ((2 ^ 3000 : Nat) : Int) = 2 ^ 3000 := by rw [Int.natCast_pow]; rfl
  generalize (2 : Int) ^ 3000 = B at *
  generalize (2 : Nat) ^ 3000 = C at *
  omega
theorem ford_rk {a b : Nat} (ha : isNaN a = false) (hb : isNaN b = false) : ford a b = some (compare (rk a) (rk b)) := by
  have hB := big_pos
  unfold isNaN at ha hb
  cases ra : Ieee.double.read a with
  | nan s f => rw [ra] at ha; cases ha
  | number s m i =>
    have fa : fin a := ⟨_, _, _, ra, read_place ra⟩
    cases rb : Ieee.double.read b with
    | nan s f => rw [rb] at hb; cases hb
    | number t n j =>
      have fb : fin b := ⟨_, _, _, rb, read_place rb⟩
      rw [ford_fin fa fb, rk_fin fa, rk_fin fb]
    | infinity t =>
      obtain ⟨h1, h2⟩ := abs_lt (rk_small fa)
      unfold ford Ieee.Format.order
      rw [ra, rb]
      have e : rk b = if t then -2 ^ 3000 else 2 ^ 3000 := by unfold rk; rw [rb]; rfl
      rw [e]
      cases t with
      | true => rw [if_pos rfl, cmp_gt h1]; rfl
      | false => rw [if_neg (by decide), cmp_lt h2]; rfl
  | infinity s =>
    have ea : rk a = if s then -2 ^ 3000 else 2 ^ 3000 := by unfold rk; rw [ra]; rfl
    cases rb : Ieee.double.read b with
    | nan s f => rw [rb] at hb; cases hb
    | number t n j =>
      have fb : fin b := ⟨_, _, _, rb, read_place rb⟩
      obtain ⟨h1, h2⟩ := abs_lt (rk_small fb)
      unfold ford Ieee.Format.order
      rw [ra, rb, ea]
      cases s with
      | true => rw [if_pos rfl, cmp_lt h1]; rfl
      | false => rw [if_neg (by decide), cmp_gt h2]; rfl
    | infinity t =>
      unfold ford Ieee.Format.order
      have eb : rk b = if t then -2 ^ 3000 else 2 ^ 3000 := by unfold rk; rw [rb]; rfl
      rw [ra, rb, ea, eb]
      have hlt : (-2 ^ 3000 : Int) < 2 ^ 3000 := by generalize (2 : Int) ^ 3000 = B at *; omega
      cases s <;> cases t
      · rw [if_neg (by decide), (cmp_cases _ _).2.1.2 rfl]; rfl
      · rw [if_neg (by decide), if_pos rfl, cmp_gt hlt]; rfl
      · rw [if_pos rfl, if_neg (by decide), cmp_lt hlt]; rfl
      · rw [if_pos rfl, (cmp_cases _ _).2.1.2 rfl]; rfl
theorem ford_nan {a b : Nat} (h : isNaN a = true ∨ isNaN b = true) : ford a b = none := by
  unfold isNaN at h
  unfold ford Ieee.Format.order
  cases ra : Ieee.double.read a <;> cases rb : Ieee.double.read b <;> rw [ra, rb] at h <;> rcases h with h | h <;> first | rfl | cases h
theorem cmp_dec (x y : Int) : (compare x y == Ordering.lt) = decide (x < y) ∧ (compare x y == Ordering.gt) = decide (y < x) ∧ (compare x y == Ordering.eq) = decide (x = y) := by
  obtain ⟨h1, h2, h3⟩ := cmp_cases x y
  cases hc : compare x y with
  | lt => have := h1.1 hc; refine ⟨?_, ?_, ?_⟩ <;> simp <;> omega
  | eq => have := h2.1 hc; refine ⟨?_, ?_, ?_⟩ <;> simp <;> omega
  | gt => have := h3.1 hc; refine ⟨?_, ?_, ?_⟩ <;> simp <;> omega
theorem some_beq (x y : Ordering) : (some x == some y) = (x == y) := rfl
theorem flt_rk (a b : Nat) : flt a b = (!isNaN a && !isNaN b && decide (rk a < rk b)) := by
  unfold flt
  cases ha : isNaN a with
  | true => rw [ford_nan (.inl ha)]; rfl
  | false =>
    cases hb : isNaN b with
    | true => rw [ford_nan (.inr hb)]; rfl
    | false => rw [ford_rk ha hb, some_beq, (cmp_dec _ _).1]; rfl
theorem fgt_rk (a b : Nat) : fgt a b = (!isNaN a && !isNaN b && decide (rk b < rk a)) := by
  unfold fgt
  cases ha : isNaN a with
  | true => rw [ford_nan (.inl ha)]; rfl
  | false =>
    cases hb : isNaN b with
    | true => rw [ford_nan (.inr hb)]; rfl
    | false => rw [ford_rk ha hb, some_beq, (cmp_dec _ _).2.1]; rfl
theorem feq_rk (a b : Nat) : feq a b = (!isNaN a && !isNaN b && decide (rk a = rk b)) := by
  unfold feq
  cases ha : isNaN a with
  | true => rw [ford_nan (.inl ha)]; rfl
  | false =>
    cases hb : isNaN b with
    | true => rw [ford_nan (.inr hb)]; rfl
    | false => rw [ford_rk ha hb, some_beq, (cmp_dec _ _).2.2]; rfl
theorem fge_rk (a b : Nat) : fge a b = (!isNaN a && !isNaN b && decide (rk b ≤ rk a)) := by
  unfold fge
  cases ha : isNaN a with
  | true => rw [ford_nan (.inl ha)]; rfl
  | false =>
    cases hb : isNaN b with
    | true => rw [ford_nan (.inr hb)]; rfl
    | false =>
      rw [ford_rk ha hb, some_beq, some_beq, (cmp_dec _ _).2.1, (cmp_dec _ _).2.2]
      show _ = decide _
      rw [← Bool.decide_or]
      exact decide_eq_decide.2 (by omega)
theorem fle_rk (a b : Nat) : fle a b = (!isNaN a && !isNaN b && decide (rk a ≤ rk b)) := by
  unfold fle
  cases ha : isNaN a with
  | true => rw [ford_nan (.inl ha)]; rfl
  | false =>
    cases hb : isNaN b with
    | true => rw [ford_nan (.inr hb)]; rfl
    | false =>
      rw [ford_rk ha hb, some_beq, some_beq, (cmp_dec _ _).1, (cmp_dec _ _).2.2]
      show _ = decide _
      rw [← Bool.decide_or]
      exact decide_eq_decide.2 (by omega)
theorem drk_neg (d : Ieee.Datum) : drk (dneg d) = - drk d := by
  have hB := big_pos
  cases d with
  | number s n i => show Ieee.signed (!s) n _ = - Ieee.signed s n _; unfold Ieee.signed; cases s <;> simp
  | infinity s => show (if (!s) then (-2 ^ 3000 : Int) else 2 ^ 3000) = - (if s then (-2 ^ 3000 : Int) else 2 ^ 3000); cases s <;> simp
  | nan s f => rfl
theorem drk_abs (d : Ieee.Datum) : drk (dabs d) = ((drk d).natAbs : Int) := by
  cases d with
  | number s n i => show Ieee.signed false n _ = ((Ieee.signed s n _).natAbs : Int); rw [signed_abs]; unfold Ieee.signed; rw [Nat.shiftLeft_eq]; rfl
  | infinity s =>
    show (if false then (-2 ^ 3000 : Int) else 2 ^ 3000) = (((if s then (-2 ^ 3000 : Int) else 2 ^ 3000)).natAbs : Int)
    have hB := big_pos
    generalize (2 : Int) ^ 3000 = B at *
    cases s <;> simp <;> omega
  | nan s f => rfl
theorem nan_dneg (d : Ieee.Datum) : (dneg d).isNaN = d.isNaN := by cases d <;> rfl
theorem nan_dabs (d : Ieee.Datum) : (dabs d).isNaN = d.isNaN := by cases d <;> rfl
theorem qnan_nan : isNaN qnan = true := by decide
theorem rk_qnan : rk qnan = 0 := by decide
theorem rk_nan {a : Nat} (h : isNaN a = true) : rk a = 0 := by
  unfold isNaN at h; unfold rk
  cases ra : Ieee.double.read a <;> rw [ra] at h <;> first | rfl | cases h
theorem fneg_rk (a : Nat) : isNaN (fneg a) = isNaN a ∧ rk (fneg a) = - rk a := by
  have h1 : isNaN (a ^^^ 2 ^ 63) = isNaN a := by unfold isNaN; rw [read_neg, nan_dneg]
  have h2 : rk (a ^^^ 2 ^ 63) = - rk a := by unfold rk; rw [read_neg, drk_neg]
  unfold fneg canon
  rw [h1]
  cases h : isNaN a with
  | true => rw [if_pos rfl, rk_nan h]; exact ⟨qnan_nan, by rw [rk_qnan]; rfl⟩
  | false => rw [if_neg (by decide)]; exact ⟨by rw [h1, h], h2⟩
theorem absF_rk (a : Nat) : isNaN (absF a) = isNaN a ∧ rk (absF a) = ((rk a).natAbs : Int) := by
  have h1 : isNaN (a % 2 ^ 63) = isNaN a := isNaN_low a
  have h2 : rk (a % 2 ^ 63) = ((rk a).natAbs : Int) := by unfold rk; rw [read_abs, drk_abs]
  unfold absF
  cases h : isNaN a with
  | true => rw [if_pos rfl, rk_nan h]; exact ⟨qnan_nan, by rw [rk_qnan]; rfl⟩
  | false => rw [if_neg (by decide)]; exact ⟨by rw [h1, h], h2⟩
end Go.Proofs.Ytnphdnokedhhkaa.Fw
