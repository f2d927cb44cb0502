/- The nearest step of a grid: the machine's rounding, and floor with the rest. On the grid, or not. -/
import Derived.Test.YthcgeajojgecnaaLwNrA
set_option maxRecDepth 100000
set_option maxHeartbeats 4000000
set_option exponentiation.threshold 4000
set_option linter.unusedSimpArgs false
set_option linter.unusedVariables false
namespace Go.Proofs.Ythcgeajojgecnaa.Fw
open Go Go.RowKit
theorem fsub_half {a b : Nat} (ha : fin a) (hb : fin b) (h1 : 2 ^ 1073 ≤ fv a - fv b) (h2 : fv a - fv b < 2 ^ 1074) : fin (fsub a b) ∧ 2 ^ 1073 ≤ fv (fsub a b) := by
  obtain ⟨s, m, i, r1, hi⟩ := ha
  obtain ⟨t, n, j, r2, hj⟩ := hb
  have hop : Ieee.signed (!t) n (j + 1074).toNat = - Ieee.signed t n (j + 1074).toNat := by unfold Ieee.signed; cases t <;> simp
  rw [fv_of r1, fv_of r2, Int.sub_eq_add_neg, ← hop] at h1 h2
  have e1 : (i + 1074).toNat = (i - min i j).toNat + (min i j + 1074).toNat := by omega
  have e2 : (j + 1074).toNat = (j - min i j).toNat + (min i j + 1074).toNat := by omega
  rw [e1, e2, signed_add, signed_add, ← Int.add_mul] at h1 h2
  unfold fsub Ieee.Format.sub
  rw [r1, r2]
  simp only [Ieee.Datum.opposite, Ieee.Datum.sum, Option.map_some, cOpt]
  generalize Ieee.signed s m (i - min i j).toNat + Ieee.signed (!t) n (j - min i j).toNat = total at h1 h2 ⊢
  have hk : (0 : Int) < 2 ^ (min i j + 1074).toNat := Int.pow_pos (by decide)
  have hpos : 0 < total := by
    rcases Int.lt_or_le 0 total with h | h
    · exact h
    · exfalso
      have := Int.mul_le_mul_of_nonneg_right h (Int.le_of_lt hk)
      have h0 : (0 : Int) < 2 ^ 1073 := Int.pow_pos (by decide)
      omega
  rw [if_neg (by omega), decide_eq_false (by omega)]
  obtain ⟨T, rfl⟩ : ∃ T : Nat, total = (T : Int) := ⟨total.toNat, by omega⟩
  rw [Int.natAbs_natCast]
  have c1 : (2 : Int) ^ 1073 = ((2 ^ 1073 : Nat) : Int) := by rw [Int.natCast_pow]; rfl
  have c2 : (2 : Int) ^ 1074 = ((2 ^ 1074 : Nat) : Int) := by rw [Int.natCast_pow]; rfl
  have c3 : (2 : Int) ^ (min i j + 1074).toNat = ((2 ^ (min i j + 1074).toNat : Nat) : Int) := by rw [Int.natCast_pow]; rfl
  rw [c1, c3, ← Int.natCast_mul] at h1
  rw [c2, c3, ← Int.natCast_mul] at h2
  exact nearest_half (by omega) (Int.ofNat_le.1 h1) (Int.ofNat_lt.1 h2)
theorem trunc_is {y : Nat} (hy : fin y) (hb : (fv y).natAbs < 2 ^ 1104) : ((fv y).tdiv (2 ^ 1074)).natAbs < 2 ^ 30 ∧ ftoInt y .i64 = some ((fv y).tdiv (2 ^ 1074)) ∧ ftoInt y .i32 = some ((fv y).tdiv (2 ^ 1074)) := by
  have ht := toInt_fin hy
  have hn : ((fv y).tdiv (2 ^ 1074)).natAbs < 2 ^ 30 := by
    rw [Int.natAbs_tdiv, Int.natAbs_pow]
    exact Nat.div_lt_of_lt_mul (by rw [show (2 : Int).natAbs = 2 from rfl, ← Nat.pow_add]; exact hb)
  refine ⟨hn, ?_, ?_⟩
  · unfold ftoInt
    rw [ht]
    simp only
    generalize (fv y).tdiv (2 ^ 1074) = r at hn ⊢
    have e1 : IntKind.i64.min = -9223372036854775808 := rfl
    have e2 : IntKind.i64.max = 9223372036854775807 := rfl
    rw [if_pos (by omega)]
  · unfold ftoInt
    rw [ht]
    simp only
    generalize (fv y).tdiv (2 ^ 1074) = r at hn ⊢
    have e1 : IntKind.i32.min = -2147483648 := rfl
    have e2 : IntKind.i32.max = 2147483647 := rfl
    rw [if_pos (by omega)]
/-- the whole number below: truncated, and one less if that is above -/
theorem floor_is {y : Nat} (hy : fin y) (hb : (fv y).natAbs < 2 ^ 1104) : (if fgt (fofInt ((fv y).tdiv (2 ^ 1074))) y = true then (fv y).tdiv (2 ^ 1074) - 1 else (fv y).tdiv (2 ^ 1074)) = fv y / 2 ^ 1074 := by
  obtain ⟨hn, _⟩ := trunc_is hy hb
  obtain ⟨f1, f2⟩ := fofInt_exact (n := (fv y).tdiv (2 ^ 1074)) (Nat.lt_trans hn (by decide))
  rw [fgt_fin f1 hy, f2]
  clear hn f1 f2 hb
  generalize fv y = V
  have hG : (2 : Int) ^ 1074 = ((2 ^ 1074 : Nat) : Int) := by rw [Int.natCast_pow]; rfl
  rw [hG]
  have hg : 0 < 2 ^ 1074 := Nat.pow_pos (by decide)
  generalize 2 ^ 1074 = g at *
  clear hG
  rcases Int.le_total 0 V with hv | hv
  · obtain ⟨N, rfl⟩ : ∃ N : Nat, V = (N : Int) := ⟨V.toNat, by omega⟩
    obtain ⟨⟨a, _, b⟩, _⟩ := int_parts N g hg
    rw [a, b, ← Int.natCast_mul]
    have := Nat.div_mul_le_self N g
    rw [if_neg (by simp only [decide_eq_true_eq]; omega)]
  · obtain ⟨N, rfl⟩ : ∃ N : Nat, V = -(N : Int) := ⟨V.natAbs, by omega⟩
    obtain ⟨_, a, _, b⟩ := int_parts N g hg
    rw [a, b, Int.neg_mul, ← Int.natCast_mul]
    have hd := Nat.div_add_mod N g
    rw [Nat.mul_comm] at hd
    generalize N / g * g = P at *
    by_cases h : N % g = 0
    · rw [if_pos h, if_neg (by simp only [decide_eq_true_eq]; omega)]
    · rw [if_neg h, if_pos (by simp only [decide_eq_true_eq]; omega)]
theorem half_is : fin 4602678819172646912 ∧ fv 4602678819172646912 = 2 ^ 1073 := by
  have hr : Ieee.double.read 4602678819172646912 = .number false (2 ^ 52) (-53) := by decide
  refine ⟨⟨_, _, _, hr, by decide⟩, ?_⟩
  rw [fv_of hr]
  show (if false = true then _ else (((2 ^ 52) <<< 1021 : Nat) : Int)) = _
  rw [if_neg (by decide), Nat.shiftLeft_eq, ← Nat.pow_add, Int.natCast_pow]
  rfl
/-- the rest, above the half? -/
theorem rest_is {y : Nat} (hy : fin y) (hb : (fv y).natAbs < 2 ^ 1104) :
    (fgt (fsub y (fofInt (fv y / 2 ^ 1074))) 4602678819172646912 || (feq (fsub y (fofInt (fv y / 2 ^ 1074))) 4602678819172646912 && decide (fv y / 2 ^ 1074 % 2 ≠ 0))) = halfUp (fv y) := by
  obtain ⟨g1, g2⟩ := half_is
  have hb26 : (fv y / 2 ^ 1074).natAbs ≤ 2 ^ 30 := by
    have hG : (2 : Int) ^ 1074 = ((2 ^ 1074 : Nat) : Int) := by rw [Int.natCast_pow]; rfl
    have hq : (fv y).natAbs / 2 ^ 1074 < 2 ^ 30 := Nat.div_lt_of_lt_mul (by rw [← Nat.pow_add]; exact hb)
    have hg : 0 < 2 ^ 1074 := Nat.pow_pos (by decide)
    rw [hG]
    generalize fv y = V at *
    generalize 2 ^ 1074 = g at *
    rcases Int.le_total 0 V with hv | hv
    · obtain ⟨N, rfl⟩ : ∃ N : Nat, V = (N : Int) := ⟨V.toNat, by omega⟩
      obtain ⟨⟨a, _, _⟩, _⟩ := int_parts N g hg
      rw [Int.natAbs_natCast] at hq
      rw [a]
      generalize N / g = q at *
      omega
    · obtain ⟨N, rfl⟩ : ∃ N : Nat, V = -(N : Int) := ⟨V.natAbs, by omega⟩
      obtain ⟨_, a, _, _⟩ := int_parts N g hg
      rw [Int.natAbs_neg, Int.natAbs_natCast] at hq
      rw [a]
      generalize N / g = q at *
      split <;> omega
  obtain ⟨f1, f2⟩ := fofInt_exact (n := fv y / 2 ^ 1074) (Nat.lt_of_le_of_lt hb26 (by decide))
  have hpos : (0 : Int) < 2 ^ 1074 := Int.pow_pos (by decide)
  have hmod : fv y - fv y / 2 ^ 1074 * 2 ^ 1074 = fv y % 2 ^ 1074 := by
    have := Int.emod_add_mul_ediv (fv y) (2 ^ 1074)
    rw [Int.mul_comm] at this
    omega
  have hh : (2 : Int) ^ 1074 = 2 * 2 ^ 1073 := by rw [show 1074 = 1073 + 1 from rfl, Int.pow_succ, Int.mul_comm]
  have exactly : fits (fv y % 2 ^ 1074).natAbs → (fgt (fsub y (fofInt (fv y / 2 ^ 1074))) 4602678819172646912 || (feq (fsub y (fofInt (fv y / 2 ^ 1074))) 4602678819172646912 && decide (fv y / 2 ^ 1074 % 2 ≠ 0))) = halfUp (fv y) := by
    intro hf
    obtain ⟨s1, s2⟩ := fsub_exact hy f1 (by rw [f2, hmod]; exact hf)
    rw [f2, hmod] at s2
    rw [fgt_fin s1 g1, feq_fin s1 g1, s2, g2]
    unfold halfUp
    rw [hh]
    congr 1
    · exact decide_eq_decide.2 (by omega)
    · congr 1
      exact decide_eq_decide.2 (by omega)
  obtain ⟨s, m, i, hr, hi⟩ := id hy
  have hm := read_mag hr
  have hv : fv y = (if s then -((m * 2 ^ (i + 1074).toNat : Nat) : Int) else ((m * 2 ^ (i + 1074).toNat : Nat) : Int)) := by
    rw [fv_of hr]; unfold Ieee.signed; rw [Nat.shiftLeft_eq]
  have hG : (2 : Int) ^ 1074 = ((2 ^ 1074 : Nat) : Int) := by rw [Int.natCast_pow]; rfl
  have hg : 0 < 2 ^ 1074 := Nat.pow_pos (by decide)
  cases s with
  | false =>
    refine exactly ?_
    rw [hv, if_neg (by decide), hG, (int_parts _ _ hg).1.2.1, Int.natAbs_natCast]
    exact fits_mod hm
  | true =>
    rw [if_pos rfl] at hv
    by_cases h0 : m * 2 ^ (i + 1074).toNat % 2 ^ 1074 = 0
    · refine exactly ?_
      rw [hv, hG, (int_parts _ _ hg).2.2.1, if_pos h0]
      exact fits_zero
    · by_cases hbig : 2 ^ 1073 < m * 2 ^ (i + 1074).toNat
      · refine exactly ?_
        rw [hv, hG, (int_parts _ _ hg).2.2.1, if_neg h0]
        have hl := Nat.mod_lt (m * 2 ^ (i + 1074).toNat) hg
        have e : ((((2 ^ 1074 : Nat) : Int) - ((m * 2 ^ (i + 1074).toNat % 2 ^ 1074 : Nat) : Int))).natAbs = 2 ^ 1074 - m * 2 ^ (i + 1074).toNat % 2 ^ 1074 := by
          generalize m * 2 ^ (i + 1074).toNat % 2 ^ 1074 = w at *
          generalize 2 ^ 1074 = g at *
          omega
        rw [e]
        exact fits_rest hm h0 hbig
      · -- between -1/2 and nought
        have hlt : m * 2 ^ (i + 1074).toNat < 2 ^ 1074 := Nat.lt_of_le_of_lt (Nat.not_lt.1 hbig) (Nat.pow_lt_pow_right (by decide) (by decide))
        have ed := (int_parts (m * 2 ^ (i + 1074).toNat) _ hg).2.1
        have em := (int_parts (m * 2 ^ (i + 1074).toNat) _ hg).2.2.1
        rw [if_neg h0, Nat.div_eq_of_lt hlt, ← hG, ← hv] at ed
        rw [if_neg h0, Nat.mod_eq_of_lt hlt, ← hG, ← hv] at em
        have hd1 : fv y / 2 ^ 1074 = -1 := by rw [ed]; rfl
        have hle : ((m * 2 ^ (i + 1074).toNat : Nat) : Int) ≤ 2 ^ 1073 := by
          have c : (2 : Int) ^ 1073 = ((2 ^ 1073 : Nat) : Int) := by rw [Int.natCast_pow]; rfl
          rw [c]
          exact Int.ofNat_le.2 (Nat.not_lt.1 hbig)
        have hpos2 : (0 : Int) < ((m * 2 ^ (i + 1074).toNat : Nat) : Int) := by
          rcases Nat.eq_zero_or_pos (m * 2 ^ (i + 1074).toNat) with h | h
          · rw [h, Nat.zero_mod] at h0; exact absurd rfl h0
          · exact Int.ofNat_lt.2 h
        have r1 : fv y - fv (fofInt (fv y / 2 ^ 1074)) = fv y % 2 ^ 1074 := by rw [f2, hmod]
        generalize ((m * 2 ^ (i + 1074).toNat : Nat) : Int) = N at em hle hpos2
        obtain ⟨s1, s2⟩ := fsub_half hy f1 (by rw [r1, em]; omega) (by rw [r1, em]; omega)
        rw [fgt_fin s1 g1, feq_fin s1 g1, g2]
        unfold halfUp
        rw [em, hd1]
        rw [hd1] at s2
        generalize fv (fsub y (fofInt (-1))) = w at *
        have t1 : (decide ((2 : Int) ^ 1073 < w) || (decide (w = 2 ^ 1073) && decide ((-1 : Int) % 2 ≠ 0))) = true := by
          rw [Bool.or_eq_true, Bool.and_eq_true]
          rcases Int.lt_or_eq_of_le s2 with h | h
          · exact .inl (decide_eq_true h)
          · exact .inr ⟨decide_eq_true h.symm, by decide⟩
        have t2 : (decide ((2 : Int) ^ 1074 < 2 * (2 ^ 1074 - N)) || (decide ((2 : Int) ^ 1074 = 2 * (2 ^ 1074 - N)) && decide ((-1 : Int) % 2 ≠ 0))) = true := by
          rw [Bool.or_eq_true, Bool.and_eq_true]
          rcases Int.lt_or_eq_of_le hle with h | h
          · exact .inl (decide_eq_true (by omega))
          · exact .inr ⟨decide_eq_true (by omega), by decide⟩
        rw [t1, t2]
end Go.Proofs.Ythcgeajojgecnaa.Fw
