/- The nearest step of 2^-6 of a number up to 2^20: both ways the same. -/
import Derived.Test.YthcgeajojgecnaaLwNrC
set_option maxRecDepth 100000
set_option maxHeartbeats 4000000
set_option exponentiation.threshold 4000
set_option linter.unusedSimpArgs false
set_option linter.unusedVariables false
namespace Go.Proofs.Ythcgeajojgecnaa.Fw
open Go Go.RowKit
theorem even_is {y : Nat} (hy : fin y) (hb : (fv y).natAbs < 2 ^ 1104) : fin (fint .even y) ∧ fv (fint .even y) = (fv y / 2 ^ 1074 + (halfUp (fv y)).toNat) * 2 ^ 1074 := by
  obtain ⟨f1, f2, f3, f4⟩ := fint_even hy
  exact ⟨f1, even_int (fv y) f2 f3 f4⟩
theorem floor_small {y : Nat} (hb : (fv y).natAbs < 2 ^ 1104) : (fv y / 2 ^ 1074 + (halfUp (fv y)).toNat).natAbs < 2 ^ 32 := by
  have hG : (2 : Int) ^ 1074 = ((2 ^ 1074 : Nat) : Int) := by rw [Int.natCast_pow]; rfl
  have hq : (fv y).natAbs / 2 ^ 1074 < 2 ^ 30 := Nat.div_lt_of_lt_mul (by rw [← Nat.pow_add]; exact hb)
  have hg : 0 < 2 ^ 1074 := Nat.pow_pos (by decide)
  have hc : (halfUp (fv y)).toNat ≤ 1 := by cases halfUp (fv y) <;> decide
  rw [hG]
  generalize (halfUp (fv y)).toNat = c at *
  generalize fv y = V at *
  clear hG hb
  generalize 2 ^ 1074 = g at *
  rcases Int.le_total 0 V with hv | hv
  · obtain ⟨N, rfl⟩ : ∃ N : Nat, V = (N : Int) := ⟨V.toNat, by omega⟩
    obtain ⟨⟨a, _, _⟩, _⟩ := int_parts N g hg
    rw [Int.natAbs_natCast] at hq
    rw [a]
    generalize N / g = q at *
    omega
  · obtain ⟨N, rfl⟩ : ∃ N : Nat, V = -(N : Int) := ⟨V.natAbs, by omega⟩
    obtain ⟨_, a, _, _⟩ := int_parts N g hg
    rw [Int.natAbs_neg, Int.natAbs_natCast] at hq
    rw [a]
    generalize N / g = q at *
    split <;> omega
theorem steps6_read : Ieee.double.read 4634204016564240384 = .number false (2 ^ 52) ((6 : Nat) - 52 : Int) := by decide
theorem whole_div6 {K : Int} (hK : K.natAbs < 2 ^ 53) {w : Nat} (hw : fin w) (hv : fv w = K * 2 ^ 1074) : fin (fdiv w 4634204016564240384) ∧ fv (fdiv w 4634204016564240384) = K * 2 ^ 1068 := by
  have e : fv w = (K * 2 ^ 1068) * 2 ^ 6 := by rw [hv, Int.mul_assoc, ← Int.pow_add]
  have hst : stout w := by
    unfold stout
    by_cases h0 : K = 0
    · left; rw [hv, h0, Int.zero_mul]
    · right
      rw [hv, Int.natAbs_mul, Int.natAbs_pow]
      calc 2 ^ 600 ≤ 1 * 2 ^ 1074 := by rw [Nat.one_mul]; exact Nat.pow_le_pow_right (by decide) (by decide)
        _ ≤ K.natAbs * 2 ^ 1074 := Nat.mul_le_mul_right _ (by omega)
  exact fdiv_pow2 hw hst steps6_read (by decide) e (fits_grid hK (by decide))
theorem add_nought {x : Nat} (h : fin x) (hf : fits (fv x).natAbs) : fin (fadd x 0) ∧ fv (fadd x 0) = fv x := by
  have hr : Ieee.double.read 0 = .number false 0 (-1074) := by decide
  have h0 : fin 0 := ⟨_, _, _, hr, by decide⟩
  have v0 : fv 0 = 0 := by rw [fv_of hr, signed_zero]
  have := fadd_exact h h0 (by rw [v0, Int.add_zero]; exact hf)
  rw [v0, Int.add_zero] at this
  exact this
/-- within 2^20 -/
def wiS (a : Nat) : Bool := fge a 13920626448202203136 && fle a 4697254411347427328
def up6 (a : Nat) : Nat := fmul a 4634204016564240384
def stepF (a : Nat) : Nat := fadd (fdiv (fint Ieee.Toward.even (up6 a)) 4634204016564240384) 0
def stepK (a : Nat) : Int := fv (up6 a) / 2 ^ 1074 + (halfUp (fv (up6 a))).toNat
theorem edgeS_is : isNaN 13920626448202203136 = false ∧ rk 13920626448202203136 = - 2 ^ 1094 ∧ isNaN 4697254411347427328 = false ∧ rk 4697254411347427328 = 2 ^ 1094 :=
  ⟨by decide, of_decide_eq_true (by kernel_rfl), by decide, of_decide_eq_true (by kernel_rfl)⟩
theorem wiS_fin {a : Nat} (h : wiS a = true) : fin a ∧ (fv a).natAbs ≤ 2 ^ 1094 := by
  obtain ⟨e1, e2, e3, e4⟩ := edgeS_is
  unfold wiS at h
  rw [Bool.and_eq_true, fge_rk, fle_rk, e1, e2, e3, e4] at h
  simp only [Bool.not_false, Bool.and_true, Bool.true_and, Bool.and_eq_true, Bool.not_eq_true', decide_eq_true_eq] at h
  obtain ⟨⟨h1, h2⟩, _, h3⟩ := h
  have hb : (rk a).natAbs ≤ 2 ^ 1094 := by
    have c : (2 : Int) ^ 1094 = ((2 ^ 1094 : Nat) : Int) := by rw [Int.natCast_pow]; rfl
    rw [c] at h2 h3
    generalize 2 ^ 1094 = B at *
    omega
  have hf : fin a := fin_of_rk' h1 (Nat.lt_of_le_of_lt hb (Nat.pow_lt_pow_right (by decide) (by decide)))
  exact ⟨hf, by rw [← rk_fin hf]; exact hb⟩
theorem up6_is {a : Nat} (h : wiS a = true) : fin (up6 a) ∧ (fv (up6 a)).natAbs < 2 ^ 1104 := by
  obtain ⟨h1, h2⟩ := wiS_fin h
  have hle : (fv a).natAbs * 2 ^ 6 ≤ 2 ^ 1100 := by
    calc (fv a).natAbs * 2 ^ 6 ≤ 2 ^ 1094 * 2 ^ 6 := Nat.mul_le_mul_right _ h2
      _ = 2 ^ 1100 := by rw [← Nat.pow_add]
  obtain ⟨q1, q2⟩ := fmul_pow2 (k := 6) h1 steps6_read (Nat.lt_of_le_of_lt hle (Nat.pow_lt_pow_right (by decide) (by decide)))
  refine ⟨q1, ?_⟩
  show (fv (fmul a 4634204016564240384)).natAbs < _
  rw [q2, Int.natAbs_mul, Int.natAbs_pow]
  exact Nat.lt_of_le_of_lt hle (Nat.pow_lt_pow_right (by decide) (by decide))
theorem step_is {a : Nat} (h : wiS a = true) : fin (stepF a) ∧ fv (stepF a) = stepK a * 2 ^ 1068 := by
  obtain ⟨h1, hb⟩ := up6_is h
  obtain ⟨f1, f2⟩ := even_is h1 hb
  have hK : (stepK a).natAbs < 2 ^ 53 := Nat.lt_trans (floor_small hb) (by decide)
  obtain ⟨d1, d2⟩ := whole_div6 hK f1 f2
  have := add_nought d1 (by rw [d2]; exact fits_grid hK (by decide))
  rw [d2] at this
  exact this
end Go.Proofs.Ythcgeajojgecnaa.Fw
