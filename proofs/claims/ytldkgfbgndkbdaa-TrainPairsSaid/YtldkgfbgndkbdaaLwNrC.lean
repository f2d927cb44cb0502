/- The nearest step of 2^-12 of a number within the edge: both ways the same; on the grid. -/
import Derived.Test.YtldkgfbgndkbdaaLwNrB
set_option maxRecDepth 100000
set_option maxHeartbeats 4000000
set_option exponentiation.threshold 4000
set_option linter.unusedSimpArgs false
set_option linter.unusedVariables false
namespace Go.Proofs.Ytldkgfbgndkbdaa.Fw
open Go Go.RowKit
/-- not lost -/
def wi (a : Nat) : Bool := fge a 13875590451928498176 && fle a 4652218415073722368
/-- so many steps, as a float -/
def up12 (a : Nat) : Nat := fmul a 4661225614328463360
def nearF (a : Nat) : Nat := fadd (fdiv (fint Ieee.Toward.even (up12 a)) 4661225614328463360) 0
/-- whole steps: the nearest -/
def nearK (a : Nat) : Int := fv (up12 a) / 2 ^ 1074 + (halfUp (fv (up12 a))).toNat
theorem steps_read : Ieee.double.read 4661225614328463360 = .number false (2 ^ 52) ((12 : Nat) - 52 : Int) := by decide
theorem fin_of_rk' {x : Nat} (h : isNaN x = false) (hb : (rk x).natAbs < 2 ^ 3000) : fin x := by
  unfold isNaN at h
  unfold rk at hb
  cases hr : Ieee.double.read x with
  | number s n i => exact ⟨s, n, i, hr, read_place hr⟩
  | nan s f => rw [hr] at h; cases h
  | infinity s =>
    rw [hr] at hb
    exfalso
    have e : (drk (.infinity s)).natAbs = 2 ^ 3000 := by
      show ((if s then -2 ^ 3000 else 2 ^ 3000 : Int)).natAbs = _
      cases s
      · rw [if_neg (by decide), Int.natAbs_pow]; rfl
      · rw [if_pos rfl, Int.natAbs_neg, Int.natAbs_pow]; rfl
    rw [e] at hb
    exact Nat.lt_irrefl _ hb
theorem edge_is : isNaN 13875590451928498176 = false ∧ rk 13875590451928498176 = - 2 ^ 1084 ∧ isNaN 4652218415073722368 = false ∧ rk 4652218415073722368 = 2 ^ 1084 :=
  ⟨by decide, of_decide_eq_true (by kernel_rfl), by decide, of_decide_eq_true (by kernel_rfl)⟩
theorem wi_fin {a : Nat} (h : wi a = true) : fin a ∧ (fv a).natAbs ≤ 2 ^ 1084 := by
  obtain ⟨e1, e2, e3, e4⟩ := edge_is
  unfold wi at h
  rw [Bool.and_eq_true, fge_rk, fle_rk, e1, e2, e3, e4] at h
  simp only [Bool.not_false, Bool.and_true, Bool.true_and, Bool.and_eq_true, Bool.not_eq_true', decide_eq_true_eq] at h
  obtain ⟨⟨h1, h2⟩, _, h3⟩ := h
  have hb : (rk a).natAbs ≤ 2 ^ 1084 := by
    have c : (2 : Int) ^ 1084 = ((2 ^ 1084 : Nat) : Int) := by rw [Int.natCast_pow]; rfl
    rw [c] at h2 h3
    generalize 2 ^ 1084 = B at *
    omega
  have hf : fin a := fin_of_rk' h1 (Nat.lt_of_le_of_lt hb (Nat.pow_lt_pow_right (by decide) (by decide)))
  exact ⟨hf, by rw [← rk_fin hf]; exact hb⟩
theorem up12_is {a : Nat} (h : wi a = true) : fin (up12 a) ∧ fv (up12 a) = fv a * 2 ^ 12 ∧ (fv (up12 a)).natAbs ≤ 2 ^ 1096 := by
  obtain ⟨h1, h2⟩ := wi_fin h
  have hle : (fv a).natAbs * 2 ^ 12 ≤ 2 ^ 1096 := by
    calc (fv a).natAbs * 2 ^ 12 ≤ 2 ^ 1084 * 2 ^ 12 := Nat.mul_le_mul_right _ h2
      _ = 2 ^ 1096 := by rw [← Nat.pow_add]
  obtain ⟨q1, q2⟩ := fmul_pow2 (k := 12) h1 steps_read (Nat.lt_of_le_of_lt hle (Nat.pow_lt_pow_right (by decide) (by decide)))
  refine ⟨q1, q2, ?_⟩
  show (fv (fmul a 4661225614328463360)).natAbs ≤ _
  rw [q2, Int.natAbs_mul, Int.natAbs_pow]
  exact hle
theorem up12_lt {a : Nat} (h : wi a = true) : (fv (up12 a)).natAbs < 2 ^ 1104 := Nat.lt_of_le_of_lt (up12_is h).2.2 (Nat.pow_lt_pow_right (by decide) (by decide))
theorem nearK_le {a : Nat} (h : wi a = true) : (nearK a).natAbs ≤ 2 ^ 22 := by
  obtain ⟨h1, _, h3⟩ := up12_is h
  obtain ⟨f1, f2, f3, f4⟩ := fint_even h1
  have e := even_int (fv (up12 a)) f2 f3 f4
  have hr : rne (fv (up12 a)).natAbs (2 ^ 1074) ≤ 2 ^ 22 := by
    unfold rne
    have hg : 0 < 2 ^ 1074 := Nat.pow_pos (by decide)
    have hm := Nat.div_add_mod (fv (up12 a)).natAbs (2 ^ 1074)
    have hl := Nat.mod_lt (fv (up12 a)).natAbs hg
    have hq : (fv (up12 a)).natAbs / 2 ^ 1074 ≤ 2 ^ 22 := by
      refine Nat.div_le_of_le_mul ?_
      rw [← Nat.pow_add]; exact h3
    rcases Nat.lt_or_eq_of_le hq with hlt | heq
    · generalize (decide (2 ^ 1074 < 2 * ((fv (up12 a)).natAbs % 2 ^ 1074)) || (2 ^ 1074 == 2 * ((fv (up12 a)).natAbs % 2 ^ 1074) && (fv (up12 a)).natAbs / 2 ^ 1074 % 2 == 1)) = b
      cases b
      · exact Nat.le_of_lt hlt
      · exact hlt
    · have h0 : (fv (up12 a)).natAbs % 2 ^ 1074 = 0 := by
        rw [heq, ← Nat.pow_add] at hm
        have : 2 ^ (1074 + 22) = 2 ^ 1096 := rfl
        generalize (fv (up12 a)).natAbs % 2 ^ 1074 = w at *
        generalize 2 ^ 1096 = z at *
        omega
      rw [h0, heq]
      have : ¬ 2 ^ 1074 = 2 * 0 := by
        rw [Nat.mul_zero]; exact Nat.ne_of_gt hg
      rw [decide_eq_false (by omega), beq_eq_false_iff_ne.2 this]
      exact Nat.le_refl _
  have hn : (nearK a).natAbs * 2 ^ 1074 = rne (fv (up12 a)).natAbs (2 ^ 1074) * 2 ^ 1074 := by
    rw [← f2, e, Int.natAbs_mul, Int.natAbs_pow]; rfl
  rw [Nat.eq_of_mul_eq_mul_right (Nat.pow_pos (by decide)) hn]
  exact hr
theorem whole_read {K : Int} (hK : K.natAbs < 2 ^ 53) {w : Nat} (hw : fin w) (hv : fv w = K * 2 ^ 1074) : grid K (fdiv w 4661225614328463360) := by
  have e : fv w = (K * 2 ^ 1062) * 2 ^ 12 := by rw [hv, Int.mul_assoc, ← Int.pow_add]
  have hst : stout w := by
    unfold stout
    by_cases h0 : K = 0
    · left; rw [hv, h0, Int.zero_mul]
    · right
      rw [hv, Int.natAbs_mul, Int.natAbs_pow]
      calc 2 ^ 600 ≤ 1 * 2 ^ 1074 := by rw [Nat.one_mul]; exact Nat.pow_le_pow_right (by decide) (by decide)
        _ ≤ K.natAbs * 2 ^ 1074 := Nat.mul_le_mul_right _ (by omega)
  exact fdiv_pow2 hw hst steps_read (by decide) e (fits_grid hK (by decide))
theorem grid_zero {K : Int} {x : Nat} (h : grid K x) (hK : K.natAbs < 2 ^ 53) : grid K (fadd x 0) := by
  have hz : grid 0 0 := by
    have hr : Ieee.double.read 0 = .number false 0 (-1074) := by decide
    exact ⟨⟨_, _, _, hr, by decide⟩, by rw [fv_of hr, signed_zero, Int.zero_mul]⟩
  have := grid_add h hz (by rw [Int.add_zero]; exact hK)
  rw [Int.add_zero] at this
  exact this
/-- what comes in: so many steps -/
theorem near_grid {a : Nat} (h : wi a = true) : grid (nearK a) (nearF a) := by
  have hK := nearK_le h
  obtain ⟨h1, _, h3⟩ := up12_is h
  obtain ⟨f1, f2, f3, f4⟩ := fint_even h1
  have e := even_int (fv (up12 a)) f2 f3 f4
  have hK53 : (nearK a).natAbs < 2 ^ 53 := Nat.lt_of_le_of_lt hK (by decide)
  exact grid_zero (whole_read hK53 f1 e) hK53
theorem near_same {a : Nat} (h : wi a = true) : feq (fdiv (fofInt (nearK a)) 4661225614328463360) (nearF a) = true := by
  have hK53 : (nearK a).natAbs < 2 ^ 53 := Nat.lt_of_le_of_lt (nearK_le h) (by decide)
  rw [grid_eq (grid_parts hK53) (near_grid h)]
  exact decide_eq_true rfl
/-- it is no nought with a sign -/
theorem near_sign {a : Nat} (h : wi a = true) : nearF a ≠ 9223372036854775808 := by
  intro hc
  have hg := near_grid h
  have hr0 : Ieee.double.read 9223372036854775808 = .number true 0 (-1074) := by decide
  have hK : nearK a = 0 := by
    have := hg.2
    rw [hc, fv_of hr0, signed_zero] at this
    rcases Int.mul_eq_zero.1 this.symm with h | h
    · exact h
    · exact absurd h (pow_ne _)
  obtain ⟨h1, _, h3⟩ := up12_is h
  obtain ⟨f1, f2, f3, f4⟩ := fint_even h1
  have e := even_int (fv (up12 a)) f2 f3 f4
  have hK53 : (nearK a).natAbs < 2 ^ 53 := Nat.lt_of_le_of_lt (nearK_le h) (by decide)
  have hu := whole_read hK53 f1 e
  obtain ⟨⟨s, m, i, hr, hi⟩, hv⟩ := hu
  have hm : m = 0 := by
    rw [hK, Int.zero_mul, fv_of hr] at hv
    have := signed_abs s m (i + 1074).toNat
    rw [hv] at this
    have hp : 0 < 2 ^ (i + 1074).toNat := Nat.pow_pos (by decide)
    rcases Nat.mul_eq_zero.1 this.symm with h | h
    · exact h
    · omega
  subst hm
  have hz : Ieee.double.read 0 = .number false 0 (-1074) := by decide
  unfold nearF fadd Ieee.Format.add at hc
  rw [hr, hz] at hc
  simp only [Ieee.Datum.sum, Option.map_some, cOpt, signed_zero] at hc
  rw [if_pos (by decide), Bool.and_false] at hc
  have : Ieee.double.write (.number false (0 : Int).natAbs (min i (-1074))) = 0 := by
    show Ieee.double.nearest false 0 _ = 0
    unfold Ieee.Format.nearest
    rw [if_pos rfl]; rfl
  rw [show (0 + 0 : Int) = 0 from rfl] at hc
  rw [this] at hc
  exact absurd hc (by decide)
/-- on the grid? -/
def onF (a : Nat) : Bool := wi a && feq (fint Ieee.Toward.down (up12 a)) (up12 a)
theorem on_iff {a : Nat} (h : wi a = true) : feq (fint Ieee.Toward.down (up12 a)) (up12 a) = decide (fv (up12 a) % 2 ^ 1074 = 0) ∧ feq (fofInt ((fv (up12 a)).tdiv (2 ^ 1074))) (up12 a) = decide (fv (up12 a) % 2 ^ 1074 = 0) := by
  obtain ⟨h1, _, h3⟩ := up12_is h
  have hlt := up12_lt h
  obtain ⟨q1, q2⟩ := fint_down h1
  obtain ⟨hn, _⟩ := trunc_is h1 hlt
  obtain ⟨f1, f2⟩ := fofInt_exact (n := (fv (up12 a)).tdiv (2 ^ 1074)) (Nat.lt_trans hn (by decide))
  rw [feq_fin q1 h1, feq_fin f1 h1, q2, f2]
  have hG : (2 : Int) ^ 1074 = ((2 ^ 1074 : Nat) : Int) := by rw [Int.natCast_pow]; rfl
  have hg : 0 < 2 ^ 1074 := Nat.pow_pos (by decide)
  generalize fv (up12 a) = V
  rw [hG]
  clear hG hlt hn f2 q2 f1 q1 h3
  generalize 2 ^ 1074 = g at *
  constructor
  · refine decide_eq_decide.2 ?_
    have := Int.emod_add_mul_ediv V g
    rw [Int.mul_comm] at this
    omega
  · refine decide_eq_decide.2 ?_
    rcases Int.le_total 0 V with hv | hv
    · obtain ⟨N, rfl⟩ : ∃ N : Nat, V = (N : Int) := ⟨V.toNat, by omega⟩
      obtain ⟨⟨_, b, c⟩, _⟩ := int_parts N g hg
      rw [b, c, ← Int.natCast_mul]
      have := Nat.div_add_mod N g
      rw [Nat.mul_comm] at this
      omega
    · obtain ⟨N, rfl⟩ : ∃ N : Nat, V = -(N : Int) := ⟨V.natAbs, by omega⟩
      obtain ⟨_, _, b, c⟩ := int_parts N g hg
      rw [b, c, Int.neg_mul, ← Int.natCast_mul]
      have := Nat.div_add_mod N g
      have hl := Nat.mod_lt N hg
      rw [Nat.mul_comm] at this
      split <;> omega
end Go.Proofs.Ytldkgfbgndkbdaa.Fw
