/- what comes of a filter: sums on the grid of 2^-12, exact; no program in sight. -/
import Derived.Test.YtnphdnokedhhkaaLwLyB
set_option maxRecDepth 100000
set_option maxHeartbeats 4000000
set_option exponentiation.threshold 4000
set_option linter.unusedSimpArgs false
set_option linter.unusedVariables false
namespace Go.Proofs.Ytnphdnokedhhkaa.Fw
open Go Go.RowKit
theorem six_stout {m : Int} {x : Nat} (h : six m x) : stout x := by
  unfold stout
  rw [h.2]
  by_cases hm : m = 0
  · left; simp [hm]
  · right
    rw [Int.natAbs_mul, Int.natAbs_pow]
    have h1 : 1 ≤ m.natAbs := by omega
    have h2 : (2 : Nat) ^ 600 ≤ 2 ^ 1068 := Nat.pow_le_pow_right (by decide) (by decide)
    calc (2 : Nat) ^ 600 ≤ 1 * 2 ^ 1068 := by rw [Nat.one_mul]; exact h2
      _ ≤ m.natAbs * 2 ^ 1068 := Nat.mul_le_mul_right _ h1
theorem six_mul {a b : Int} {x y : Nat} (hx : six a x) (hy : six b y) (h : (a * b).natAbs < 2 ^ 53) : grid (a * b) (fmul x y) := by
  have e : fv x * fv y = a * b * 2 ^ 1062 * 2 ^ 1074 := by
    rw [hx.2, hy.2]
    have p : (2 : Int) ^ 1068 * 2 ^ 1068 = 2 ^ 1062 * 2 ^ 1074 := by rw [← Int.pow_add, ← Int.pow_add]
    calc a * 2 ^ 1068 * (b * 2 ^ 1068) = a * b * (2 ^ 1068 * 2 ^ 1068) := by
          rw [Int.mul_assoc, Int.mul_assoc]; congr 1; rw [Int.mul_left_comm]
      _ = _ := by rw [p, Int.mul_assoc (a * b)]
  exact fmul_exact hx.1 hy.1 (six_stout hx) (six_stout hy) e (fits_grid h (by decide))
theorem plainF_six {x m : Nat} (hm : okM m) (h : plainF x m = true) : ∃ a : Int, a.natAbs ≤ 8192 ∧ six a x := by
  unfold plainF at h
  rw [Bool.and_eq_true] at h
  obtain ⟨h1, h2⟩ := h
  obtain ⟨f1, f2⟩ := plain_fin hm h1
  obtain ⟨g1, g2, g3⟩ := mul64 hm h1
  obtain ⟨k1, k2⟩ := fint_zero g1
  rw [feq_fin k1 g1, decide_eq_true_eq, k2, g2] at h2
  refine ⟨(fv x * 2 ^ 6).tdiv (2 ^ 1074), ?_, f1, ?_⟩
  · generalize (fv x * 2 ^ 6).tdiv (2 ^ 1074) = t at h2
    have e : t * 2 ^ 1068 = fv x := by
      have p : (2 : Int) ^ 1074 = 2 ^ 1068 * 2 ^ 6 := by rw [← Int.pow_add]
      rw [p, ← Int.mul_assoc] at h2
      exact Int.eq_of_mul_eq_mul_right (by decide) h2
    rw [← e, Int.natAbs_mul, Int.natAbs_pow] at f2
    have q : (2 : Nat) ^ 1081 = 8192 * 2 ^ 1068 := by rw [show (8192 : Nat) = 2 ^ 13 from rfl, ← Nat.pow_add]
    rw [q] at f2
    exact Nat.le_of_mul_le_mul_right f2 (Nat.pow_pos (by decide))
  · generalize (fv x * 2 ^ 6).tdiv (2 ^ 1074) = t at h2 ⊢
    have p : (2 : Int) ^ 1074 = 2 ^ 1068 * 2 ^ 6 := by rw [← Int.pow_add]
    rw [p, ← Int.mul_assoc] at h2
    exact (Int.eq_of_mul_eq_mul_right (by decide) h2).symm
theorem grid_zero0 : grid 0 0 := ⟨six_zero.1, by rw [six_zero.2, Int.zero_mul, Int.zero_mul]⟩
def ptOK (z : Nat × Nat) : Bool := plainF z.1 4638707616191610880 && plainF z.2 4638707616191610880
/-- the product of a tap and a point -/
theorem tim_grid {t z : Nat × Nat} (ht : okTap t = true) (hz : ptOK z = true) : ∃ a b : Int, a.natAbs ≤ 1048576 ∧ b.natAbs ≤ 1048576 ∧ grid a (timP t z).1 ∧ grid b (timP t z).2 := by
  unfold okTap at ht
  unfold ptOK at hz
  rw [Bool.and_eq_true] at ht hz
  obtain ⟨a, ha, a2⟩ := plain_six ht.1
  obtain ⟨b, hb, b2⟩ := plain_six ht.2
  obtain ⟨c, c2, hc⟩ := plainF_six (.inr rfl) hz.1
  obtain ⟨d, d2, hd⟩ := plainF_six (.inr rfl) hz.2
  have m : ∀ {x y : Int}, x.natAbs ≤ 64 → y.natAbs ≤ 8192 → (x * y).natAbs ≤ 524288 := fun {x y} h1 h2 => by rw [Int.natAbs_mul]; exact Nat.mul_le_mul h1 h2
  have p1 := m a2 c2
  have p2 := m b2 d2
  have p3 := m a2 d2
  have p4 := m b2 c2
  have g1 := six_mul ha hc (by omega)
  have g2 := six_mul hb hd (by omega)
  have g3 := six_mul ha hd (by omega)
  have g4 := six_mul hb hc (by omega)
  exact ⟨a * c - b * d, a * d + b * c, by omega, by omega, grid_sub g1 g2 (by omega), grid_add g3 g4 (by omega)⟩
/-- THE SUM OF A FILTER IS EXACT, whatever it is added to -/
theorem acc_grid {hs xs : List (Nat × Nat)} {ap : Nat} {at' : Int} (hh : hs.length ≤ 64) (h1 : ∀ i, i < hs.length → okTap (hs.getD i (0, 0)) = true) (h2 : ∀ i, i < xs.length → ptOK (xs.getD i (0, 0)) = true) :
    ∀ k, k ≤ hs.length → ∃ a b : Int, a.natAbs ≤ k * 1048576 ∧ b.natAbs ≤ k * 1048576 ∧ ∀ (o : Nat × Nat) (p q : Int), grid p o.1 → grid q o.2 → p.natAbs ≤ 1099511627776 → q.natAbs ≤ 1099511627776 → grid (p + a) (accL hs xs ap at' o k).1 ∧ grid (q + b) (accL hs xs ap at' o k).2
  | 0, _ => ⟨0, 0, by decide, by decide, fun o p q hp hq _ _ => ⟨by rw [Int.add_zero]; exact hp, by rw [Int.add_zero]; exact hq⟩⟩
  | k + 1, hk => by
    obtain ⟨a, b, a1, b1, h⟩ := acc_grid (ap := ap) (at' := at') hh h1 h2 k (by omega)
    by_cases c : 0 ≤ at' - (k * ap : Nat) ∧ at' - (k * ap : Nat) < xs.length
    · obtain ⟨u, v, u1, v1, g1, g2⟩ := tim_grid (h1 k (by omega)) (h2 (at' - (k * ap : Nat)).toNat (by omega))
      refine ⟨a + u, b + v, by omega, by omega, fun o p q hp hq p1 q1 => ?_⟩
      obtain ⟨e1, e2⟩ := h o p q hp hq p1 q1
      have e : accL hs xs ap at' o (k + 1) = addP (accL hs xs ap at' o k) (timP (hs.getD k (0, 0)) (xs.getD (at' - (k * ap : Nat)).toNat (0, 0))) := if_pos c
      rw [e, ← Int.add_assoc, ← Int.add_assoc]
      have n1 : (p + a + u).natAbs < 9007199254740992 := by omega
      have n2 : (q + b + v).natAbs < 9007199254740992 := by omega
      exact ⟨grid_add e1 g1 n1, grid_add e2 g2 n2⟩
    · refine ⟨a, b, Nat.le_trans a1 (Nat.mul_le_mul_right _ (Nat.le_succ k)), Nat.le_trans b1 (Nat.mul_le_mul_right _ (Nat.le_succ k)), fun o p q hp hq p1 q1 => ?_⟩
      have e : accL hs xs ap at' o (k + 1) = accL hs xs ap at' o k := if_neg c
      rw [e]
      exact h o p q hp hq p1 q1
/-- what comes through at one place: added one by one, and each filter's sum by itself -/
def outP' (ts xs es vs : List (Nat × Nat)) (rate : Nat) (m : Int) (delay : Nat) : Nat × Nat := accL es vs 1 m (accL ts xs rate (m - delay) (0, 0) ts.length) es.length
def outD' (ts xs es vs : List (Nat × Nat)) (rate : Nat) (m : Int) (delay : Nat) : Nat × Nat := addP (accL ts xs rate (m - delay) (0, 0) ts.length) (accL es vs 1 m (0, 0) es.length)
theorem out_same {ts xs es vs : List (Nat × Nat)} {rate delay : Nat} {m : Int} (t1 : ts.length ≤ 64) (e1 : es.length ≤ 64) (h1 : ∀ i, i < ts.length → okTap (ts.getD i (0, 0)) = true) (h2 : ∀ i, i < xs.length → ptOK (xs.getD i (0, 0)) = true)
    (h3 : ∀ i, i < es.length → okTap (es.getD i (0, 0)) = true) (h4 : ∀ i, i < vs.length → ptOK (vs.getD i (0, 0)) = true) :
    ∃ a b : Int, a.natAbs ≤ 134217728 ∧ b.natAbs ≤ 134217728 ∧ grid a (outP' ts xs es vs rate m delay).1 ∧ grid b (outP' ts xs es vs rate m delay).2 ∧ grid a (outD' ts xs es vs rate m delay).1 ∧ grid b (outD' ts xs es vs rate m delay).2 := by
  obtain ⟨a, b, a1, b1, f⟩ := acc_grid (ap := rate) (at' := m - delay) t1 h1 h2 ts.length (Nat.le_refl _)
  obtain ⟨c, d, c1, d1, g⟩ := acc_grid (ap := 1) (at' := m) e1 h3 h4 es.length (Nat.le_refl _)
  have b1' : ts.length * 1048576 ≤ 64 * 1048576 := Nat.mul_le_mul_right _ t1
  have b2' : es.length * 1048576 ≤ 64 * 1048576 := Nat.mul_le_mul_right _ e1
  obtain ⟨x1, x2⟩ := f (0, 0) 0 0 grid_zero0 grid_zero0 (by omega) (by omega)
  obtain ⟨y1, y2⟩ := g (0, 0) 0 0 grid_zero0 grid_zero0 (by omega) (by omega)
  rw [Int.zero_add] at x1 x2 y1 y2
  obtain ⟨z1, z2⟩ := g _ a b x1 x2 (by omega) (by omega)
  exact ⟨a + c, b + d, by omega, by omega, z1, z2, grid_add x1 y1 (by omega), grid_add x2 y2 (by omega)⟩
end Go.Proofs.Ytnphdnokedhhkaa.Fw
