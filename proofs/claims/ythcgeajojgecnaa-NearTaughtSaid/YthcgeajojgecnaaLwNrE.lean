/- Whole numbers made whole; multiples of 2^-6 taken 64 times; squares of small numbers of the grid. -/
import Derived.Test.YthcgeajojgecnaaLwTtC
set_option maxRecDepth 100000
set_option maxHeartbeats 4000000
set_option exponentiation.threshold 4000
set_option linter.unusedSimpArgs false
set_option linter.unusedVariables false
namespace Go.Proofs.Ythcgeajojgecnaa.Fw
open Go Go.RowKit
theorem fint_whole (way : Ieee.Toward) {a : Nat} {K : Int} (h : intv K a) : intv K (fint way a) := by
  obtain ⟨⟨s, m, i, hr, hp⟩, hv⟩ := h
  obtain ⟨q1, q2⟩ := fint_parts way hr
  obtain ⟨d1, d2⟩ := parts_div (m := m) hp
  have hN : m * 2 ^ (i + 1074).toNat = K.natAbs * 2 ^ 1074 := by
    rw [← signed_abs s, ← fv_of hr, hv, Int.natAbs_mul, Int.natAbs_pow]; rfl
  refine ⟨q1, ?_⟩
  rw [← hv, q2, fv_of hr]
  refine signed_eq s ?_
  have hz : m <<< i.toNat % 2 ^ (-i).toNat = 0 := by
    have h0 : (m <<< i.toNat % 2 ^ (-i).toNat) * 2 ^ (1074 - (-i).toNat) = 0 := by rw [← d2, hN, Nat.mul_mod_left]
    rcases Nat.mul_eq_zero.1 h0 with h | h
    · exact h
    · exact absurd h (Nat.ne_of_gt (Nat.pow_pos (by decide)))
  have ho : oneMore way s (m <<< i.toNat) (2 ^ (-i).toNat) = false := by
    have hg : 0 < 2 ^ (-i).toNat := Nat.pow_pos (by decide)
    unfold oneMore
    rw [hz]
    generalize 2 ^ (-i).toNat = g at *
    cases way with
    | even =>
      show (decide (g < 2 * 0) || (g == 2 * 0 && _)) = false
      rw [decide_eq_false (by omega), show (g == 2 * 0) = false from by simp; omega]; rfl
    | down => simp
    | up => simp
    | zero => rfl
  rw [cut_eq, ho, ← d1, hN, Nat.mul_div_cancel _ (Nat.pow_pos (by decide))]
  simp
theorem stout64 : fin 4634204016564240384 ∧ fv 4634204016564240384 = 64 * 2 ^ 1074 := by
  have h := fofInt_exact (n := 64) (by decide)
  have e : fofInt 64 = 4634204016564240384 := by kernel_rfl
  rw [e] at h; exact h
theorem times64 {m : Int} {x : Nat} (h : grid6 m x) (hm : m.natAbs < 2 ^ 53) : intv m (fmul 4634204016564240384 x) :=
  fmul_exact stout64.1 h.1 (intv_stout (X := 64) stout64) (grid6_stout h) (V := m * 2 ^ 1074) (by
    rw [stout64.2, h.2, show (64 : Int) = 2 ^ 6 from rfl, Int.mul_left_comm, ← Int.pow_add, ← Int.pow_add, Int.mul_assoc, ← Int.pow_add]) (fits_grid hm (by decide))
/-- a multiple of the step is one -/
theorem whole64 {m : Int} {x : Nat} (h : grid6 m x) (hm : m.natAbs < 2 ^ 53) : feq (fint .zero (fmul 4634204016564240384 x)) (fmul 4634204016564240384 x) = true := by
  have a := times64 h hm
  have b := fint_whole .zero a
  rw [feq_fin b.1 a.1, b.2, a.2]
  exact decide_eq_true rfl
theorem intv_grid6 {X : Int} {x : Nat} (h : intv X x) : grid6 (64 * X) x := ⟨h.1, by rw [h.2, Int.mul_comm 64 X, Int.mul_assoc, show (64 : Int) * 2 ^ 1068 = 2 ^ 1074 by rw [show (64 : Int) = 2 ^ 6 from rfl, ← Int.pow_add]]⟩
theorem sq_grid {d : Int} {x : Nat} (h : grid d x) (hd : d.natAbs ≤ 4095) : fin (fmul x x) ∧ fv (fmul x x) = d * d * 2 ^ 1050 ∧ (d * d).natAbs ≤ 4095 * 4095 := by
  have hb : (d * d).natAbs ≤ 4095 * 4095 := by rw [Int.natAbs_mul]; exact Nat.mul_le_mul hd hd
  have := fmul_exact h.1 h.1 (grid_stout h) (grid_stout h) (V := d * d * 2 ^ 1050) (by
    rw [h.2, Int.mul_assoc, Int.mul_left_comm (2 ^ 1062) d, ← Int.pow_add, Int.mul_assoc d d, Int.mul_assoc d, Int.mul_assoc d, ← Int.pow_add]) (fits_grid (by omega) (by decide))
  exact ⟨this.1, this.2, hb⟩
/-- its norm is below 1 -/
theorem sq_low {d : Int} {x : Nat} (h : grid d x) (hd : d.natAbs ≤ 4095) : fin (fadd (fmul x x) 0) ∧ (fv (fadd (fmul x x) 0)).natAbs < 2 ^ 1074 := by
  obtain ⟨a, b, c⟩ := sq_grid h hd
  have hf : fits (fv (fmul x x)).natAbs := by rw [b]; exact fits_grid (by omega) (by decide)
  obtain ⟨p, q⟩ := add_nought a hf
  refine ⟨p, ?_⟩
  rw [q, b, Int.natAbs_mul, Int.natAbs_pow, show (2 : Nat) ^ 1074 = 2 ^ 24 * 2 ^ 1050 by rw [← Nat.pow_add]]
  exact Nat.mul_lt_mul_of_pos_right (by omega) (Nat.pow_pos (by decide))
theorem sq_low2 {d : Int} {x : Nat} (h : grid d x) (hd : d.natAbs ≤ 4095) : fin (fadd 0 (fmul x x)) ∧ (fv (fadd 0 (fmul x x))).natAbs < 2 ^ 1074 := by
  obtain ⟨a, b, c⟩ := sq_grid h hd
  obtain ⟨z1, z2⟩ := intv_nought
  have hf : fits (fv 0 + fv (fmul x x)).natAbs := by rw [z2, Int.zero_mul, Int.zero_add, b]; exact fits_grid (by omega) (by decide)
  obtain ⟨p, q⟩ := fadd_exact z1 a hf
  refine ⟨p, ?_⟩
  rw [q, z2, Int.zero_mul, Int.zero_add, b, Int.natAbs_mul, Int.natAbs_pow, show (2 : Nat) ^ 1074 = 2 ^ 24 * 2 ^ 1050 by rw [← Nat.pow_add]]
  exact Nat.mul_lt_mul_of_pos_right (by omega) (Nat.pow_pos (by decide))
end Go.Proofs.Ythcgeajojgecnaa.Fw
