/- train: a training's numbers; what comes through taps, as the law reckons it. -/
import Derived.Test.YthcgeajojgecnaaLwTtA
import Derived.Test.YthcgeajojgecnaaLwTtB
set_option maxRecDepth 100000
set_option maxHeartbeats 4000000
set_option exponentiation.threshold 4000
set_option linter.unusedSimpArgs false
set_option linter.unusedVariables false
namespace Go.Proofs.Ythcgeajojgecnaa.Fw
open Go Go.RowKit
/-- a whole number -/
def intv (X : Int) (x : Nat) : Prop := fin x ∧ fv x = X * 2 ^ 1074
theorem intv_nought : intv 0 0 := by
  have hr : Ieee.double.read 0 = .number false 0 (-1074) := by decide
  exact ⟨⟨_, _, _, hr, by decide⟩, by rw [fv_of hr, signed_zero, Int.zero_mul]⟩
theorem intv_stout {X : Int} {x : Nat} (h : intv X x) : stout x := by
  unfold stout
  by_cases h0 : X = 0
  · left; rw [h.2, h0, Int.zero_mul]
  · right
    rw [h.2, Int.natAbs_mul, Int.natAbs_pow]
    calc 2 ^ 600 ≤ 1 * 2 ^ 1074 := by rw [Nat.one_mul]; exact Nat.pow_le_pow_right (by decide) (by decide)
      _ ≤ X.natAbs * 2 ^ 1074 := Nat.mul_le_mul_right _ (by omega)
theorem grid6_stout {m : Int} {x : Nat} (h : grid6 m x) : stout x := by
  unfold stout
  by_cases h0 : m = 0
  · left; rw [h.2, h0, Int.zero_mul]
  · right
    rw [h.2, Int.natAbs_mul, Int.natAbs_pow]
    calc 2 ^ 600 ≤ 1 * 2 ^ 1068 := by rw [Nat.one_mul]; exact Nat.pow_le_pow_right (by decide) (by decide)
      _ ≤ m.natAbs * 2 ^ 1068 := Nat.mul_le_mul_right _ (by omega)
theorem grid6_sub {m n : Int} {x y : Nat} (hx : grid6 m x) (hy : grid6 n y) (h : (m - n).natAbs < 2 ^ 53) : grid6 (m - n) (fsub x y) := by
  have e : fv x - fv y = (m - n) * 2 ^ 1068 := by rw [hx.2, hy.2, Int.sub_mul]
  have := fsub_exact hx.1 hy.1 (by rw [e]; exact fits_grid h (by decide))
  exact ⟨this.1, by rw [this.2, e]⟩
theorem grid6_mul {K X : Int} {a b : Nat} (ha : grid6 K a) (hb : intv X b) (h : (K * X).natAbs < 2 ^ 53) : grid6 (K * X) (fmul a b) :=
  fmul_exact ha.1 hb.1 (grid6_stout ha) (intv_stout hb) (V := K * X * 2 ^ 1068) (by rw [ha.2, hb.2, Int.mul_assoc, Int.mul_assoc, Int.mul_assoc, Int.mul_left_comm (2 ^ 1068) X, Int.mul_comm (2 ^ 1068) (2 ^ 1074)]) (fits_grid h (by decide))
/-- a step's number, on the grid -/
theorem grid6_grid {m : Int} {x : Nat} (h : grid6 m x) : grid (64 * m) x := ⟨h.1, by rw [h.2, Int.mul_comm 64 m, Int.mul_assoc, show (64 : Int) * 2 ^ 1062 = 2 ^ 1068 by rw [show (64 : Int) = 2 ^ 6 from rfl, ← Int.pow_add]]⟩
theorem size_one {u : Int} (hu : u = 1 ∨ u = -1) : intv (128 * u) (fmul 4638707616191610880 (fofInt u)) := by
  have hub : u.natAbs < 2 ^ 53 := by rcases hu with rfl | rfl <;> decide
  obtain ⟨f1, f2⟩ := fofInt_exact hub
  have h128 : fofInt 128 = 4638707616191610880 := by kernel_rfl
  obtain ⟨g1, g2⟩ := fofInt_exact (n := 128) (by decide)
  rw [h128] at g1 g2
  refine fmul_exact g1 f1 (intv_stout (X := 128) ⟨g1, g2⟩) (intv_stout (X := u) ⟨f1, f2⟩) (V := 128 * u * 2 ^ 1074) ?_ (fits_grid (by rcases hu with rfl | rfl <;> decide) (by decide))
  rw [f2, g2, Int.mul_assoc, Int.mul_assoc, Int.mul_assoc, Int.mul_left_comm (2 ^ 1074) u]
section
variable {us vs : List Int} {r h N : Nat}
theorem layW_at (hu : us.length = N) (hv : vs.length = N) (hr : 1 ≤ r) (hin : ∀ i, i < N → i * r < h) : ∀ {i : Nat}, i ≤ N →
    (∀ q, q < i → (layW us vs r h i).getD (q * r) (0, 0) = (fmul 4638707616191610880 (fofInt (us.getD q 0)), 0)) ∧
    (∀ q, q < i → (layW us vs r h i).getD (h + q * r) (0, 0) = (fmul 4638707616191610880 (fofInt (vs.getD q 0)), 0)) ∧
    (∀ t, (∀ q, q < i → t ≠ q * r ∧ t ≠ h + q * r) → (layW us vs r h i).getD t (0, 0) = (0, 0))
  | 0, _ => by
    refine ⟨fun q hq => absurd hq (Nat.not_lt_zero _), fun q hq => absurd hq (Nat.not_lt_zero _), fun t _ => ?_⟩
    show (List.replicate (2 * h) ((0, 0) : Nat × Nat)).getD t (0, 0) = _
    rw [List.getD_eq_getElem?_getD, List.getElem?_replicate]
    split <;> rfl
  | i + 1, hi => by
    obtain ⟨a, b, c⟩ := layW_at hu hv hr hin (i := i) (by omega)
    have ih := hin i (by omega)
    have l0 : i * r < (layW us vs r h i).length := by rw [layW_len]; omega
    have l1 : h + i * r < ((layW us vs r h i).set (i * r) (fmul 4638707616191610880 (fofInt (us.getD i 0)), 0)).length := by rw [List.length_set, layW_len]; omega
    have inj : ∀ q, q < i → i * r ≠ q * r := fun q hq e => by
      have : (q + 1) * r ≤ i * r := Nat.mul_le_mul_right _ (by omega)
      rw [Nat.add_mul, Nat.one_mul] at this
      omega
    refine ⟨fun q hq => ?_, fun q hq => ?_, fun t ht => ?_⟩
    · have hq2 := hin q (by omega)
      rw [layW, getD_sets l1, if_neg (by omega), getD_sets l0]
      by_cases e : q = i
      · subst e; rw [if_pos rfl]
      · rw [if_neg (inj q (by omega)), a q (by omega)]
    · have hq2 := hin q (by omega)
      rw [layW, getD_sets l1]
      by_cases e : q = i
      · subst e; rw [if_pos rfl]
      · have := inj q (by omega)
        rw [if_neg (by omega), getD_sets l0, if_neg (by omega), b q (by omega)]
    · obtain ⟨t1, t2⟩ := ht i (by omega)
      rw [layW, getD_sets l1, if_neg (fun e => t2 e.symm), getD_sets l0, if_neg (fun e => t1 e.symm), c t fun q hq => ht q (by omega)]
/-- the whole numbers of a training -/
def layX (us vs : List Int) (r h N : Nat) (t : Nat) : Int := fv ((layW us vs r h N).getD t (0, 0)).1 / 2 ^ 1074
theorem of_intv {X : Int} {x : Nat} (h : intv X x) : fv x / 2 ^ 1074 = X := by
  rw [h.2]; exact Int.mul_ediv_cancel _ (pow_ne 1074)
theorem layX_is (hu : us.length = N) (hv : vs.length = N) (hr : 1 ≤ r) (hin : ∀ i, i < N → i * r < h) (h1 : ∀ i, i < N → us.getD i 0 = 1 ∨ us.getD i 0 = -1) (h2 : ∀ i, i < N → vs.getD i 0 = 1 ∨ vs.getD i 0 = -1) :
    (∀ i, i < N → layX us vs r h N (i * r) = 128 * us.getD i 0) ∧ (∀ i, i < N → layX us vs r h N (h + i * r) = 128 * vs.getD i 0) ∧ (∀ t, N * r ≤ t → t < h → layX us vs r h N t = 0) ∧ (∀ t, h + N * r ≤ t → layX us vs r h N t = 0) ∧
    (∀ t, intv (layX us vs r h N t) ((layW us vs r h N).getD t (0, 0)).1 ∧ ((layW us vs r h N).getD t (0, 0)).2 = 0 ∧ (layX us vs r h N t).natAbs ≤ 128) := by
  obtain ⟨a, b, c⟩ := layW_at hu hv hr hin (Nat.le_refl N)
  have mul : ∀ q, q < N → (q + 1) * r ≤ N * r := fun q hq => Nat.mul_le_mul_right _ (by omega)
  refine ⟨fun i hi => ?_, fun i hi => ?_, fun t t1 t2 => ?_, fun t t1 => ?_, fun t => ?_⟩
  · unfold layX; rw [a i hi]; exact of_intv (size_one (h1 i hi))
  · unfold layX; rw [b i hi]; exact of_intv (size_one (h2 i hi))
  · unfold layX
    rw [c t fun q hq => by have := mul q hq; rw [Nat.add_mul, Nat.one_mul] at this; omega]
    exact of_intv intv_nought
  · unfold layX
    rw [c t fun q hq => by have := mul q hq; have := hin q hq; rw [Nat.add_mul, Nat.one_mul] at *; omega]
    exact of_intv intv_nought
  · have key : ∀ {X x}, intv X x → ((layW us vs r h N).getD t (0, 0)) = (x, 0) → X.natAbs ≤ 128 → intv (layX us vs r h N t) ((layW us vs r h N).getD t (0, 0)).1 ∧ ((layW us vs r h N).getD t (0, 0)).2 = 0 ∧ (layX us vs r h N t).natAbs ≤ 128 := by
      intro X x hx e hX
      unfold layX
      rw [e]
      have : fv x / 2 ^ 1074 = X := of_intv hx
      refine ⟨?_, rfl, ?_⟩
      · show intv (fv x / 2 ^ 1074) x; rw [this]; exact hx
      · show (fv x / 2 ^ 1074).natAbs ≤ 128; rw [this]; exact hX
    have b128 : ∀ u : Int, u = 1 ∨ u = -1 → (128 * u).natAbs ≤ 128 := fun u hu => by rcases hu with rfl | rfl <;> decide
    by_cases e1 : ∃ q, q < N ∧ t = q * r
    · obtain ⟨q, hq, rfl⟩ := e1
      exact key (size_one (h1 q hq)) (a q hq) (b128 _ (h1 q hq))
    · by_cases e2 : ∃ q, q < N ∧ t = h + q * r
      · obtain ⟨q, hq, rfl⟩ := e2
        exact key (size_one (h2 q hq)) (b q hq) (b128 _ (h2 q hq))
      · exact key intv_nought (c t fun q hq => ⟨fun e => e1 ⟨q, hq, e⟩, fun e => e2 ⟨q, hq, e⟩⟩) (by decide)
end
section
variable {K X : Nat → Int} {R n : Nat}
theorem thru_abs {M : Nat} (hK : ∀ i, i < M → (K i).natAbs ≤ 64) (hX : ∀ t, (X t).natAbs ≤ 128) : ∀ {i}, i ≤ M → (thruS K X R i n).natAbs ≤ i * 8192 := fun {i} hi => sg_abs fun k hk => by
  split
  · rw [Int.natAbs_mul]; exact Nat.mul_le_mul (hK k (by omega)) (hX _)
  · exact Nat.zero_le _
end
section
variable {L n : Nat} {hs zs : List (Nat × Nat)} {K J X : Nat → Int} {R t : Nat}
end
end Go.Proofs.Ythcgeajojgecnaa.Fw
