/- The nearest step of 2^-12 of a number within the edge: both ways the same; on the grid. -/
import Derived.Test.YthcgeajojgecnaaLwNrB
set_option maxRecDepth 100000
set_option maxHeartbeats 4000000
set_option exponentiation.threshold 4000
set_option linter.unusedSimpArgs false
set_option linter.unusedVariables false
namespace Go.Proofs.Ythcgeajojgecnaa.Fw
open Go Go.RowKit
/-- not lost -/
def wi (a : Nat) : Bool := fge a 13875590451928498176 && fle a 4652218415073722368
/-- so many steps, as a float -/
def up12 (a : Nat) : Nat := fmul a 4661225614328463360
theorem steps_read : Ieee.double.read 4661225614328463360 = .number false (2 ^ 52) ((12 : Nat) - 52 : Int) := by decide
theorem fin_of_rk' {x : Nat} (h : isNaN x = false) (hb : (rk x).natAbs < 2 ^ 3000) : fin x := by
  unfold isNaN at h
  unfold rk at hb
  cases hr : Ieee.double.read x with
  | number s n i => exact ⟨s, n, i, hr, read_place hr⟩
  | nan s f => rw [hr] at h; cases h
  | infinity s =>
    rw [hr] at hb
    exfalso
    have e : (drk (.infinity s)).natAbs = 2 ^ 3000 := by
      show ((if s then -2 ^ 3000 else 2 ^ 3000 : Int)).natAbs = _
      cases s
      · rw [if_neg (by decide), Int.natAbs_pow]; rfl
      · rw [if_pos rfl, Int.natAbs_neg, Int.natAbs_pow]; rfl
    rw [e] at hb
    exact Nat.lt_irrefl _ hb
theorem edge_is : isNaN 13875590451928498176 = false ∧ rk 13875590451928498176 = - 2 ^ 1084 ∧ isNaN 4652218415073722368 = false ∧ rk 4652218415073722368 = 2 ^ 1084 :=
  ⟨by decide, of_decide_eq_true (by kernel_rfl), by decide, of_decide_eq_true (by kernel_rfl)⟩
theorem wi_fin {a : Nat} (h : wi a = true) : fin a ∧ (fv a).natAbs ≤ 2 ^ 1084 := by
  obtain ⟨e1, e2, e3, e4⟩ := edge_is
  unfold wi at h
  rw [Bool.and_eq_true, fge_rk, fle_rk, e1, e2, e3, e4] at h
  simp only [Bool.not_false, Bool.and_true, Bool.true_and, Bool.and_eq_true, Bool.not_eq_true', decide_eq_true_eq] at h
  obtain ⟨⟨h1, h2⟩, _, h3⟩ := h
  have hb : (rk a).natAbs ≤ 2 ^ 1084 := by
    have c : (2 : Int) ^ 1084 = ((2 ^ 1084 : Nat) : Int) := by rw [Int.natCast_pow]; rfl
    rw [c] at h2 h3
    generalize 2 ^ 1084 = B at *
    omega
  have hf : fin a := fin_of_rk' h1 (Nat.lt_of_le_of_lt hb (Nat.pow_lt_pow_right (by decide) (by decide)))
  exact ⟨hf, by rw [← rk_fin hf]; exact hb⟩
theorem up12_is {a : Nat} (h : wi a = true) : fin (up12 a) ∧ fv (up12 a) = fv a * 2 ^ 12 ∧ (fv (up12 a)).natAbs ≤ 2 ^ 1096 := by
  obtain ⟨h1, h2⟩ := wi_fin h
  have hle : (fv a).natAbs * 2 ^ 12 ≤ 2 ^ 1096 := by
    calc (fv a).natAbs * 2 ^ 12 ≤ 2 ^ 1084 * 2 ^ 12 := Nat.mul_le_mul_right _ h2
      _ = 2 ^ 1096 := by rw [← Nat.pow_add]
  obtain ⟨q1, q2⟩ := fmul_pow2 (k := 12) h1 steps_read (Nat.lt_of_le_of_lt hle (Nat.pow_lt_pow_right (by decide) (by decide)))
  refine ⟨q1, q2, ?_⟩
  show (fv (fmul a 4661225614328463360)).natAbs ≤ _
  rw [q2, Int.natAbs_mul, Int.natAbs_pow]
  exact hle
theorem up12_lt {a : Nat} (h : wi a = true) : (fv (up12 a)).natAbs < 2 ^ 1104 := Nat.lt_of_le_of_lt (up12_is h).2.2 (Nat.pow_lt_pow_right (by decide) (by decide))
/-- on the grid? -/
def onF (a : Nat) : Bool := wi a && feq (fint Ieee.Toward.down (up12 a)) (up12 a)
theorem on_iff {a : Nat} (h : wi a = true) : feq (fint Ieee.Toward.down (up12 a)) (up12 a) = decide (fv (up12 a) % 2 ^ 1074 = 0) ∧ feq (fofInt ((fv (up12 a)).tdiv (2 ^ 1074))) (up12 a) = decide (fv (up12 a) % 2 ^ 1074 = 0) := by
  obtain ⟨h1, _, h3⟩ := up12_is h
  have hlt := up12_lt h
  obtain ⟨q1, q2⟩ := fint_down h1
  obtain ⟨hn, _⟩ := trunc_is h1 hlt
  obtain ⟨f1, f2⟩ := fofInt_exact (n := (fv (up12 a)).tdiv (2 ^ 1074)) (Nat.lt_trans hn (by decide))
  rw [feq_fin q1 h1, feq_fin f1 h1, q2, f2]
  have hG : (2 : Int) ^ 1074 = ((2 ^ 1074 : Nat) : Int) := by rw [Int.natCast_pow]; rfl
  have hg : 0 < 2 ^ 1074 := Nat.pow_pos (by decide)
  generalize fv (up12 a) = V
  rw [hG]
  clear hG hlt hn f2 q2 f1 q1 h3
  generalize 2 ^ 1074 = g at *
  constructor
  · refine decide_eq_decide.2 ?_
    have := Int.emod_add_mul_ediv V g
    rw [Int.mul_comm] at this
    omega
  · refine decide_eq_decide.2 ?_
    rcases Int.le_total 0 V with hv | hv
    · obtain ⟨N, rfl⟩ : ∃ N : Nat, V = (N : Int) := ⟨V.toNat, by omega⟩
      obtain ⟨⟨_, b, c⟩, _⟩ := int_parts N g hg
      rw [b, c, ← Int.natCast_mul]
      have := Nat.div_add_mod N g
      rw [Nat.mul_comm] at this
      omega
    · obtain ⟨N, rfl⟩ : ∃ N : Nat, V = -(N : Int) := ⟨V.natAbs, by omega⟩
      obtain ⟨_, _, b, c⟩ := int_parts N g hg
      rw [b, c, Int.neg_mul, ← Int.natCast_mul]
      have := Nat.div_add_mod N g
      have hl := Nat.mod_lt N hg
      rw [Nat.mul_comm] at this
      split <;> omega
end Go.Proofs.Ythcgeajojgecnaa.Fw
