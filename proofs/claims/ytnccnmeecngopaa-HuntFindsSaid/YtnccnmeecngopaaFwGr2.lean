/- Floats as whole numbers of 2^-1074, part two: sums, differences, order. -/
import Derived.Test.YtnccnmeecngopaaFwGr
set_option linter.unusedVariables false
set_option linter.unusedSimpArgs false
namespace Go.Proofs.Ytnccnmeecngopaa.Fw
open Go

/-- a number, as so many times 2^-1074 -/
def fv (x : Nat) : Int := match Ieee.double.read x with | .number s n i => Ieee.signed s n (i + 1074).toNat | _ => 0
def fin (x : Nat) : Prop := ∃ s n i, Ieee.double.read x = .number s n i ∧ -1074 ≤ i
/-- is it a float? at most 53 digits, not too great -/
def fits (v : Nat) : Prop := (∃ M k, M < 2 ^ 53 ∧ v = M * 2 ^ k) ∧ v < 2 ^ 2098

theorem read_place {x : Nat} {s : Bool} {n : Nat} {i : Int} (h : Ieee.double.read x = .number s n i) : -1074 ≤ i := by
  have hl : Ieee.double.leastPlace = -1074 := by decide
  unfold Ieee.Format.read at h
  simp only [hl] at h
  split at h
  · cases h; omega
  · split at h
    · cases h; omega
    · split at h <;> cases h
theorem fin_num {x : Nat} (h : fin x) : isNaN x = false := by
  obtain ⟨s, n, i, h, _⟩ := h
  unfold isNaN
  rw [h]; rfl
theorem fv_of {x : Nat} {s : Bool} {n : Nat} {i : Int} (h : Ieee.double.read x = .number s n i) : fv x = Ieee.signed s n (i + 1074).toNat := by
  unfold fv; rw [h]
theorem signed_zero (s : Bool) (k : Nat) : Ieee.signed s 0 k = 0 := by unfold Ieee.signed; cases s <;> simp
theorem signed_eq (s : Bool) {m n k l : Nat} (h : m * 2 ^ k = n * 2 ^ l) : Ieee.signed s m k = Ieee.signed s n l := by
  unfold Ieee.signed; rw [Nat.shiftLeft_eq, Nat.shiftLeft_eq, h]

theorem write_exact (s : Bool) {mag : Nat} {place : Int} (hp : -1074 ≤ place) (hf : fits (mag * 2 ^ (place + 1074).toNat)) :
    fin (canon (Ieee.double.nearest s mag place)) ∧ fv (canon (Ieee.double.nearest s mag place)) = Ieee.signed s mag (place + 1074).toNat := by
  have fin_canon : ∀ w : Nat, fin w → canon w = w := by
    intro w h
    unfold canon; rw [fin_num h]; rfl
  by_cases hm : mag = 0
  · subst hm
    have hr : Ieee.double.read (Ieee.double.nearest s 0 place) = .number s 0 (-1074) := by
      unfold Ieee.Format.nearest
      rw [if_pos rfl]
      exact read_sub s (by decide)
    have hfin : fin (Ieee.double.nearest s 0 place) := ⟨_, _, _, hr, by omega⟩
    rw [fin_canon _ hfin]
    refine ⟨hfin, ?_⟩
    rw [fv_of hr, signed_zero, signed_zero]
  · obtain ⟨⟨M, k, hM, hv⟩, hk⟩ := hf
    obtain ⟨n, i, hr, hi, he⟩ := nearest_exact s hm hp hM hv (by rw [← hv]; exact hk)
    have hfin : fin (Ieee.double.nearest s mag place) := ⟨_, _, _, hr, hi⟩
    rw [fin_canon _ hfin]
    refine ⟨hfin, ?_⟩
    rw [fv_of hr]
    exact signed_eq s he

theorem signed_natAbs {t : Int} {s : Bool} (h : s = true ↔ t < 0 ∨ (t = 0 ∧ s = true)) (k : Nat) : Ieee.signed s t.natAbs k = t * 2 ^ k := by
  unfold Ieee.signed
  rw [Nat.shiftLeft_eq]
  cases s with
  | true =>
    simp only [if_true]
    rw [Int.natCast_mul]
    rcases h.1 rfl with h1 | ⟨h1, _⟩
    · rw [show ((t.natAbs : Nat) : Int) = -t by omega, Int.neg_mul, Int.neg_neg]; simp
    · subst h1; simp
  | false =>
    simp only [Bool.false_eq_true, if_false]
    have : 0 ≤ t := by
      rcases Int.lt_or_le t 0 with h1 | h1
      · have := h.2 (.inl h1); cases this
      · exact h1
    rw [Int.natCast_mul, show ((t.natAbs : Nat) : Int) = t by omega]; simp

theorem sum_exact {s t : Bool} {m n : Nat} {i j : Int} (hi : -1074 ≤ i) (hj : -1074 ≤ j) (hf : fits (Ieee.signed s m (i + 1074).toNat + Ieee.signed t n (j + 1074).toNat).natAbs) :
    ∃ d, (Ieee.Datum.number s m i).sum (.number t n j) = some d ∧ fin (canon (Ieee.double.write d)) ∧ fv (canon (Ieee.double.write d)) = Ieee.signed s m (i + 1074).toNat + Ieee.signed t n (j + 1074).toNat := by
  have e1 : (i + 1074).toNat = (i - min i j).toNat + (min i j + 1074).toNat := by omega
  have e2 : (j + 1074).toNat = (j - min i j).toNat + (min i j + 1074).toNat := by omega
  rw [e1, e2, signed_add, signed_add, ← Int.add_mul] at hf ⊢
  simp only [Ieee.Datum.sum]
  generalize ht : Ieee.signed s m (i - min i j).toNat + Ieee.signed t n (j - min i j).toNat = total at *
  refine ⟨_, rfl, ?_⟩
  have hna : (total * 2 ^ (min i j + 1074).toNat).natAbs = total.natAbs * 2 ^ (min i j + 1074).toNat := by
    rw [Int.natAbs_mul, Int.natAbs_pow]; rfl
  rw [hna] at hf
  obtain ⟨h1, h2⟩ := write_exact (if total = 0 then s && t else decide (total < 0)) (mag := total.natAbs) (place := min i j) (by omega) hf
  refine ⟨h1, ?_⟩
  show fv (canon (Ieee.double.nearest _ _ _)) = _
  rw [h2]
  refine signed_natAbs ?_ _
  by_cases h0 : total = 0
  · simp [h0]
  · simp [h0]

/-- A SUM THAT IS A FLOAT IS EXACT. -/
theorem fadd_exact {a b : Nat} (ha : fin a) (hb : fin b) (hf : fits (fv a + fv b).natAbs) : fin (fadd a b) ∧ fv (fadd a b) = fv a + fv b := by
  obtain ⟨s, m, i, h1, hi⟩ := ha
  obtain ⟨t, n, j, h2, hj⟩ := hb
  rw [fv_of h1, fv_of h2] at hf ⊢
  obtain ⟨d, h3, h4⟩ := sum_exact hi hj hf
  unfold fadd Ieee.Format.add
  rw [h1, h2, h3]
  exact h4
theorem fsub_exact {a b : Nat} (ha : fin a) (hb : fin b) (hf : fits (fv a - fv b).natAbs) : fin (fsub a b) ∧ fv (fsub a b) = fv a - fv b := by
  obtain ⟨s, m, i, h1, hi⟩ := ha
  obtain ⟨t, n, j, h2, hj⟩ := hb
  have hop : Ieee.signed (!t) n (j + 1074).toNat = - Ieee.signed t n (j + 1074).toNat := by unfold Ieee.signed; cases t <;> simp
  rw [fv_of h1, fv_of h2, Int.sub_eq_add_neg, ← hop] at hf ⊢
  obtain ⟨d, h3, h4⟩ := sum_exact hi hj hf
  unfold fsub Ieee.Format.sub
  rw [h1, h2]
  simp only [Ieee.Datum.opposite]
  rw [h3]
  exact h4
theorem feq_fin {a b : Nat} (ha : fin a) (hb : fin b) : feq a b = decide (fv a = fv b) := by
  obtain ⟨s, m, i, h1, hi⟩ := ha
  obtain ⟨t, n, j, h2, hj⟩ := hb
  have : feq a b = true ↔ fv a = fv b := by
    rw [feq_iff]
    unfold ford Ieee.Format.order
    rw [h1, h2, order_eq_at (c := -1074) ⟨hi, hj⟩, fv_of h1, fv_of h2]
    simp only [Int.sub_neg]
  by_cases h : fv a = fv b
  · rw [this.2 h]; simp [h]
  · have hn : ¬ feq a b = true := fun h' => h (this.1 h')
    simp only [Bool.not_eq_true] at hn
    rw [hn]; simp [h]
end Go.Proofs.Ytnccnmeecngopaa.Fw
