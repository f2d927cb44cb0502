/- To the nearest whole number: by the machine's way, and by floor and the rest. Plain law of floats. -/
import Derived.Test.YthcgeajojgecnaaFwGr
import Derived.Test.YthcgeajojgecnaaFwAbs
set_option maxRecDepth 100000
set_option maxHeartbeats 4000000
set_option exponentiation.threshold 4000
set_option linter.unusedSimpArgs false
set_option linter.unusedVariables false
namespace Go.Proofs.Ythcgeajojgecnaa.Fw
open Go Go.RowKit
theorem canon_fin {w : Nat} (h : fin w) : canon w = w := by unfold canon; rw [fin_num h]; rfl
theorem nearest_half {mag : Nat} {place : Int} (hp : -1074 ≤ place) (h1 : 2 ^ 1073 ≤ mag * 2 ^ (place + 1074).toNat) (h2 : mag * 2 ^ (place + 1074).toNat < 2 ^ 1074) :
    fin (canon (Ieee.double.nearest false mag place)) ∧ 2 ^ 1073 ≤ fv (canon (Ieee.double.nearest false mag place)) := by
  obtain ⟨p, rfl⟩ : ∃ p : Nat, place = (p : Int) - 1074 := ⟨(place + 1074).toNat, by omega⟩
  rw [show ((p : Int) - 1074 + 1074).toNat = p by omega] at h1 h2
  have hm : mag ≠ 0 := by
    rintro rfl
    rw [Nat.zero_mul] at h1
    have : 0 < 2 ^ 1073 := Nat.pow_pos (by decide)
    omega
  have hlo : 2 ^ mag.log2 ≤ mag := Nat.log2_self_le hm
  have hhi : mag < 2 ^ (mag.log2 + 1) := Nat.lt_log2_self
  have hfr : Ieee.double.fractionBits = 52 := rfl
  have hle : Ieee.double.leastPlace = -1074 := by decide
  have hbi : Ieee.double.binade = 2 ^ 52 := by decide
  have hin : Ieee.double.infRung = 2047 * 2 ^ 52 := by decide
  unfold Ieee.Format.nearest
  rw [if_neg hm]
  simp only [hfr, hle, hbi, hin]
  generalize mag.log2 = l at *
  have hlp : l + p = 1073 := by
    have a : 2 ^ (l + p) < 2 ^ 1074 := by
      rw [Nat.pow_add]; exact Nat.lt_of_le_of_lt (Nat.mul_le_mul_right _ hlo) h2
    have b : 2 ^ 1073 < 2 ^ (l + 1 + p) := by
      rw [Nat.pow_add 2 (l + 1)]; exact Nat.lt_of_le_of_lt h1 (Nat.mul_lt_mul_of_pos_right hhi (Nat.pow_pos (by decide)))
    have a' := (Nat.pow_lt_pow_iff_right (by decide : 1 < 2)).1 a
    have b' := (Nat.pow_lt_pow_iff_right (by decide : 1 < 2)).1 b
    omega
  have e1 : max ((p : Int) - 1074 + (l : Nat) - (52 : Nat)) (-1074) = -53 := by omega
  rw [e1, show (-53 - -1074 : Int).toNat = 1021 by decide, cut_eq]
  have kept : 2 ^ 52 ≤ mag <<< ((p : Int) - 1074 - -53).toNat / 2 ^ (-53 - ((p : Int) - 1074)).toNat ∧ mag <<< ((p : Int) - 1074 - -53).toNat / 2 ^ (-53 - ((p : Int) - 1074)).toNat < 2 ^ 53 := by
    rw [Nat.shiftLeft_eq]
    by_cases hq : 1021 ≤ p
    · rw [show (-53 - ((p : Int) - 1074)).toNat = 0 by omega, Nat.pow_zero, Nat.div_one, show ((p : Int) - 1074 - -53).toNat = p - 1021 by omega]
      constructor
      · calc 2 ^ 52 = 2 ^ l * 2 ^ (p - 1021) := by rw [← Nat.pow_add]; congr 1; omega
          _ ≤ _ := Nat.mul_le_mul_right _ hlo
      · calc mag * 2 ^ (p - 1021) < 2 ^ (l + 1) * 2 ^ (p - 1021) := Nat.mul_lt_mul_of_pos_right hhi (Nat.pow_pos (by decide))
          _ = 2 ^ 53 := by rw [← Nat.pow_add]; congr 1; omega
    · rw [show ((p : Int) - 1074 - -53).toNat = 0 by omega, Nat.pow_zero, Nat.mul_one, show (-53 - ((p : Int) - 1074)).toNat = 1021 - p by omega]
      constructor
      · rw [Nat.le_div_iff_mul_le (Nat.pow_pos (by decide)), ← Nat.pow_add, show 52 + (1021 - p) = l by omega]
        exact hlo
      · rw [Nat.div_lt_iff_lt_mul (Nat.pow_pos (by decide)), ← Nat.pow_add, show 53 + (1021 - p) = l + 1 by omega]
        exact hhi
  generalize mag <<< ((p : Int) - 1074 - -53).toNat / 2 ^ (-53 - ((p : Int) - 1074)).toNat = q at kept ⊢
  obtain ⟨c, hc, hc1⟩ : ∃ c : Nat, (oneMore .even false (mag <<< ((p : Int) - 1074 - -53).toNat) (2 ^ (-53 - ((p : Int) - 1074)).toNat)).toNat = c ∧ c ≤ 1 := ⟨_, rfl, by cases oneMore .even false (mag <<< ((p : Int) - 1074 - -53).toNat) (2 ^ (-53 - ((p : Int) - 1074)).toNat) <;> decide⟩
  rw [hc, Nat.min_eq_left (by omega)]
  have fin' : ∀ {w n : Nat} {i : Int}, Ieee.double.read w = .number false n i → -1074 ≤ i → 2 ^ 1073 ≤ n * 2 ^ (i + 1074).toNat → fin (canon w) ∧ 2 ^ 1073 ≤ fv (canon w) := by
    intro w n i hr hi hv
    have hf : fin w := ⟨_, _, _, hr, hi⟩
    rw [canon_fin hf]
    refine ⟨hf, ?_⟩
    rw [fv_of hr]
    unfold Ieee.signed
    rw [if_neg (by decide), Nat.shiftLeft_eq]
    have e : (2 : Int) ^ 1073 = ((2 ^ 1073 : Nat) : Int) := by rw [Int.natCast_pow]; rfl
    rw [e]
    exact Int.ofNat_le.2 hv
  have p1021 : (-1074 + ((1021 : Nat) : Int) + 1074).toNat = 1021 := by decide
  have p1022 : (-1074 + ((1022 : Nat) : Int) + 1074).toNat = 1022 := by decide
  by_cases hq : q + c < 2 ^ 53
  · refine fin' (read_norm false (q := 1021) (k := q + c) (by omega) hq (by decide)) (by decide) ?_
    rw [p1021, show 1073 = 52 + 1021 from rfl, Nat.pow_add]
    exact Nat.mul_le_mul_right _ (by omega)
  · have e2 : 1021 * 2 ^ 52 + (q + c) = 1022 * 2 ^ 52 + 2 ^ 52 := by omega
    rw [e2]
    refine fin' (read_norm false (q := 1022) (k := 2 ^ 52) (by decide) (by decide) (by decide)) (by decide) ?_
    rw [p1022, ← Nat.pow_add]
    exact Nat.pow_le_pow_right (by decide) (by decide)
/-- the rest below a whole number fits -/
theorem fits_mod {m k : Nat} (hm : m < 2 ^ 53) : fits (m * 2 ^ k % 2 ^ 1074) := by
  have hb : m * 2 ^ k % 2 ^ 1074 < 2 ^ 1074 := Nat.mod_lt _ (Nat.pow_pos (by decide))
  have hb2 : m * 2 ^ k % 2 ^ 1074 < 2 ^ 2098 := Nat.lt_trans hb (Nat.pow_lt_pow_right (by decide) (by decide))
  by_cases hk : 1074 ≤ k
  · have e : m * 2 ^ k % 2 ^ 1074 = 0 := by
      rw [show k = (k - 1074) + 1074 by omega, Nat.pow_add, ← Nat.mul_assoc]
      exact Nat.mul_mod_left _ _
    rw [e]; exact fits_zero
  · refine ⟨⟨m % 2 ^ (1074 - k), k, Nat.lt_of_le_of_lt (Nat.mod_le _ _) hm, ?_⟩, hb2⟩
    rw [show 2 ^ 1074 = 2 ^ (1074 - k) * 2 ^ k by rw [← Nat.pow_add]; congr 1; omega]
    exact Nat.mul_mod_mul_right _ _ _
theorem fits_rest {m k : Nat} (hm : m < 2 ^ 53) (hr : m * 2 ^ k % 2 ^ 1074 ≠ 0) (hbig : 2 ^ 1073 < m * 2 ^ k) : fits (2 ^ 1074 - m * 2 ^ k % 2 ^ 1074) := by
  have hb2 : 2 ^ 1074 - m * 2 ^ k % 2 ^ 1074 < 2 ^ 2098 := Nat.lt_of_le_of_lt (Nat.sub_le _ _) (Nat.pow_lt_pow_right (by decide) (by decide))
  have hk : k < 1074 := by
    rcases Nat.lt_or_ge k 1074 with h | h
    · exact h
    · exfalso; apply hr
      rw [show k = (k - 1074) + 1074 by omega, Nat.pow_add, ← Nat.mul_assoc]
      exact Nat.mul_mod_left _ _
  have hk2 : 1021 ≤ k := by
    rcases Nat.lt_or_ge k 1021 with h | h
    · exfalso
      have : m * 2 ^ k < 2 ^ 53 * 2 ^ 1020 := Nat.mul_lt_mul_of_lt_of_le hm (Nat.pow_le_pow_right (by decide) (by omega)) (Nat.pow_pos (by decide))
      rw [← Nat.pow_add] at this
      exact Nat.lt_asymm hbig this
    · exact h
  have e : 2 ^ 1074 = 2 ^ (1074 - k) * 2 ^ k := by rw [← Nat.pow_add]; congr 1; omega
  have e2 : m * 2 ^ k % 2 ^ 1074 = m % 2 ^ (1074 - k) * 2 ^ k := by rw [e]; exact Nat.mul_mod_mul_right _ _ _
  have hpos : 0 < m % 2 ^ (1074 - k) := by
    rcases Nat.eq_zero_or_pos (m % 2 ^ (1074 - k)) with h | h
    · rw [e2, h, Nat.zero_mul] at hr; exact absurd rfl hr
    · exact h
  refine ⟨⟨2 ^ (1074 - k) - m % 2 ^ (1074 - k), k, ?_, ?_⟩, hb2⟩
  · have : 2 ^ (1074 - k) ≤ 2 ^ 53 := Nat.pow_le_pow_right (by decide) (by omega)
    have : m % 2 ^ (1074 - k) ≤ 2 ^ (1074 - k) := Nat.le_of_lt (Nat.mod_lt _ (Nat.pow_pos (by decide)))
    omega
  · rw [e2, Nat.sub_mul, ← e]
/-- whole numbers about a number: truncated, below, the rest; round to even -/
theorem int_parts (N g : Nat) (hg : 0 < g) : ((N : Int) / (g : Int) = ((N / g : Nat) : Int) ∧ (N : Int) % (g : Int) = ((N % g : Nat) : Int) ∧ (N : Int).tdiv (g : Int) = ((N / g : Nat) : Int)) ∧
    ((-(N : Int)) / (g : Int) = (if N % g = 0 then -((N / g : Nat) : Int) else -((N / g : Nat) : Int) - 1) ∧ (-(N : Int)) % (g : Int) = (if N % g = 0 then 0 else (g : Int) - ((N % g : Nat) : Int)) ∧ (-(N : Int)).tdiv (g : Int) = -((N / g : Nat) : Int)) := by
  refine ⟨⟨rfl, rfl, rfl⟩, ?_⟩
  have hd := Nat.div_add_mod N g
  have hl := Nat.mod_lt N hg
  have key : (-(N : Int)) / (g : Int) = (if N % g = 0 then -((N / g : Nat) : Int) else -((N / g : Nat) : Int) - 1) ∧ (-(N : Int)) % (g : Int) = (if N % g = 0 then 0 else (g : Int) - ((N % g : Nat) : Int)) := by
    rw [Int.ediv_emod_unique (by omega)]
    have hc : (N : Int) = (g : Int) * ((N / g : Nat) : Int) + ((N % g : Nat) : Int) := by rw [← Int.natCast_mul]; omega
    split
    · rename_i h0
      rw [h0] at hc
      refine ⟨?_, by omega, by omega⟩
      rw [Int.mul_neg]; omega
    · refine ⟨?_, by omega, by omega⟩
      rw [Int.mul_sub, Int.mul_neg, Int.mul_one]; omega
  exact ⟨key.1, key.2, by rw [Int.neg_tdiv]; rfl⟩
def halfUp (V : Int) : Bool := decide ((2 : Int) ^ 1074 < 2 * (V % 2 ^ 1074)) || (decide ((2 : Int) ^ 1074 = 2 * (V % 2 ^ 1074)) && decide (V / 2 ^ 1074 % 2 ≠ 0))
/-- rounded to even: the whole number below, and one more? -/
theorem even_int (V : Int) {W : Int} (h1 : W.natAbs = rne V.natAbs (2 ^ 1074) * 2 ^ 1074) (h2 : 0 ≤ V → 0 ≤ W) (h3 : V ≤ 0 → W ≤ 0) : W = (V / 2 ^ 1074 + (halfUp V).toNat) * 2 ^ 1074 := by
  unfold halfUp
  unfold rne at h1
  have hG : (2 : Int) ^ 1074 = ((2 ^ 1074 : Nat) : Int) := by rw [Int.natCast_pow]; rfl
  rw [hG]
  have hg : 0 < 2 ^ 1074 := Nat.pow_pos (by decide)
  have hg2 : 2 ^ 1074 = 2 * 2 ^ 1073 := by rw [show 1074 = 1073 + 1 from rfl, Nat.pow_succ, Nat.mul_comm]
  generalize 2 ^ 1073 = hh at hg2
  generalize 2 ^ 1074 = g at *
  clear hG
  rcases Int.le_total 0 V with hv | hv
  · obtain ⟨N, rfl⟩ : ∃ N : Nat, V = (N : Int) := ⟨V.toNat, by omega⟩
    obtain ⟨⟨a, b, _⟩, _⟩ := int_parts N g hg
    rw [a, b]
    have hw := h2 hv
    rw [Int.natAbs_natCast] at h1
    have e : (decide (g < 2 * (N % g)) || (g == 2 * (N % g) && N / g % 2 == 1)) = (decide ((g : Int) < 2 * ((N % g : Nat) : Int)) || (decide ((g : Int) = 2 * ((N % g : Nat) : Int)) && decide (((N / g : Nat) : Int) % 2 ≠ 0))) := by
      rw [Bool.eq_iff_iff]
      simp only [Bool.or_eq_true, Bool.and_eq_true, decide_eq_true_eq, beq_iff_eq]
      omega
    rw [e] at h1
    generalize (decide ((g : Int) < 2 * ((N % g : Nat) : Int)) || (decide ((g : Int) = 2 * ((N % g : Nat) : Int)) && decide (((N / g : Nat) : Int) % 2 ≠ 0))).toNat = c at h1 ⊢
    rw [← Int.natCast_add, ← Int.natCast_mul, ← h1]
    omega
  · obtain ⟨N, rfl⟩ : ∃ N : Nat, V = -(N : Int) := ⟨V.natAbs, by omega⟩
    obtain ⟨_, a, b, _⟩ := int_parts N g hg
    rw [a, b]
    have hw := h3 hv
    rw [Int.natAbs_neg, Int.natAbs_natCast] at h1
    have hl := Nat.mod_lt N hg
    have e : (((if N % g = 0 then -((N / g : Nat) : Int) else -((N / g : Nat) : Int) - 1) + (((decide ((g : Int) < 2 * (if N % g = 0 then 0 else (g : Int) - ((N % g : Nat) : Int)))) || (decide ((g : Int) = 2 * (if N % g = 0 then 0 else (g : Int) - ((N % g : Nat) : Int))) && decide ((if N % g = 0 then -((N / g : Nat) : Int) else -((N / g : Nat) : Int) - 1) % 2 ≠ 0))).toNat : Int))) = -((N / g + (decide (g < 2 * (N % g)) || (g == 2 * (N % g) && N / g % 2 == 1)).toNat : Nat) : Int) := by
      generalize N % g = m at *
      generalize N / g = q at *
      by_cases hm : m = 0
      · subst hm
        simp only [if_true]
        have c1 : ¬ (g : Int) < 2 * 0 := by omega
        have c2 : ¬ (g : Int) = 2 * 0 := by omega
        have c3 : ¬ g < 2 * 0 := by omega
        have c4 : ¬ g = 2 * 0 := by omega
        simp only [c1, c2, c3, decide_false, Bool.false_or, Bool.false_and, Bool.toNat_false, beq_eq_false_iff_ne.2 c4]
        omega
      · simp only [if_neg hm]
        by_cases c1 : g < 2 * m
        · have d1 : ¬ (g : Int) < 2 * ((g : Int) - (m : Int)) := by omega
          have d2 : ¬ (g : Int) = 2 * ((g : Int) - (m : Int)) := by omega
          simp only [c1, d1, d2, decide_true, decide_false, Bool.true_or, Bool.false_or, Bool.false_and, Bool.toNat_true, Bool.toNat_false]
          omega
        · by_cases c2 : g = 2 * m
          · have d1 : ¬ (g : Int) < 2 * ((g : Int) - (m : Int)) := by omega
            have d2 : (g : Int) = 2 * ((g : Int) - (m : Int)) := by omega
            simp only [c1, d1, decide_false, Bool.false_or]
            rw [decide_eq_true d2, beq_iff_eq.2 c2, Bool.true_and, Bool.true_and]
            by_cases c3 : q % 2 = 1
            · have d3 : ¬ ((-(q : Int) - 1) % 2 ≠ 0) := by omega
              rw [decide_eq_false d3, beq_iff_eq.2 c3]
              simp only [Bool.toNat_true, Bool.toNat_false]
              omega
            · have d3 : (-(q : Int) - 1) % 2 ≠ 0 := by omega
              rw [decide_eq_true d3, beq_eq_false_iff_ne.2 c3]
              simp only [Bool.toNat_true, Bool.toNat_false]
              omega
          · have d1 : (g : Int) < 2 * ((g : Int) - (m : Int)) := by omega
            simp only [c1, d1, decide_true, decide_false, Bool.true_or, Bool.false_or, Bool.toNat_true, beq_eq_false_iff_ne.2 c2, Bool.false_and, Bool.toNat_false]
            omega
    rw [e, Int.neg_mul, ← Int.natCast_mul, ← h1]
    omega
end Go.Proofs.Ythcgeajojgecnaa.Fw
