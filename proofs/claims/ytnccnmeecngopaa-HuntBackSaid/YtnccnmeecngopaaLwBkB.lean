/- HuntBack: numbers scaled and turned; what a turned row's marker is. -/
import Derived.Test.YtnccnmeecngopaaLwBkA
set_option maxRecDepth 100000
set_option maxHeartbeats 4000000
set_option exponentiation.threshold 4000
set_option linter.unusedSimpArgs false
set_option linter.unusedVariables false
namespace Go.Proofs.Ytnccnmeecngopaa.Fw
open Go Go.RowKit
/-- a float that is so many units of a power of two -/
def vl (m : Int) (e : Nat) (x : Nat) : Prop := fin x ∧ fv x = m * 2 ^ e
theorem vl_neg {m : Int} {e x : Nat} (h : vl m e x) : vl (-m) e (fneg x) := by
  obtain ⟨h1, h2⟩ := fneg_fin h.1
  exact ⟨h1, by rw [h2, h.2, Int.neg_mul]⟩
theorem vl_eq {m : Int} {e x y : Nat} (h : vl m e x) (k : vl m e y) : feq x y = true := by
  rw [feq_fin h.1 k.1, h.2, k.2]; exact decide_eq_true rfl
theorem vl_stout {m : Int} {e x : Nat} (h : vl m e x) (he : 600 ≤ e) : stout x := by
  unfold stout
  rw [h.2]
  by_cases hm : m = 0
  · left; rw [hm, Int.zero_mul]
  · right
    rw [Int.natAbs_mul]
    have h1 : 1 ≤ m.natAbs := by omega
    have h2 : ((2 : Int) ^ e).natAbs = 2 ^ e := by rw [Int.natAbs_pow]; rfl
    rw [h2]
    exact Nat.le_trans (Nat.pow_le_pow_right (by decide) he) (Nat.le_mul_of_pos_left _ h1)
theorem vl_mul {m : Int} {e d x c : Nat} (h : vl m e x) (hc : vl 1 d c) (hm : m.natAbs < 2 ^ 53) (he : 600 ≤ e) (hd : 600 ≤ d) (hs : 1074 ≤ e + d) (ht : e + d ≤ 3000) : vl m (e + d - 1074) (fmul x c) := by
  have hV : fv x * fv c = (m * 2 ^ (e + d - 1074)) * 2 ^ 1074 := by
    rw [h.2, hc.2, Int.one_mul, Int.mul_assoc, Int.mul_assoc, ← Int.pow_add, ← Int.pow_add]
    congr 2
    omega
  exact fmul_exact h.1 hc.1 (vl_stout h he) (vl_stout hc hd) hV (fits_grid hm (by omega))
theorem vl_const {x d : Nat} {p : Int} (h : Ieee.double.read x = .number false (2 ^ 52) p) (hp : -1074 ≤ p) (hd : (p + 1074).toNat + 52 = d) : vl 1 d x := by
  refine ⟨⟨_, _, _, h, hp⟩, ?_⟩
  rw [fv_of h]
  unfold Ieee.signed
  subst hd
  rw [Int.one_mul, Nat.add_comm, Int.pow_add, Nat.shiftLeft_eq]
  simp only [Bool.false_eq_true, if_false]
  rw [Int.natCast_mul, Int.natCast_pow, Int.natCast_pow]
  rfl
theorem vl_1 : vl 1 1074 4607182418800017408 := vl_const (p := -52) (by decide) (by decide) (by decide)
theorem vl_h : vl 1 1073 4602678819172646912 := vl_const (p := -53) (by decide) (by decide) (by decide)
theorem vl_q : vl 1 1072 4598175219545276416 := vl_const (p := -54) (by decide) (by decide) (by decide)
theorem vl_2 : vl 1 1075 4611686018427387904 := vl_const (p := -51) (by decide) (by decide) (by decide)
theorem vl_4 : vl 1 1076 4616189618054758400 := vl_const (p := -50) (by decide) (by decide) (by decide)
section
variable {m : Int} {a k c dk dc : Nat}
theorem back0 (ha : grid m a) (hm : m.natAbs < 2 ^ 53) (hk : vl 1 dk k) (hc : vl 1 dc c) (h1 : 1000 ≤ dk) (h2 : 1000 ≤ dc) (h3 : dk + dc = 2148) : feq (fmul (fmul a k) c) a = true := by
  have x1 := vl_mul (e := 1062) ha hk hm (by decide) (by omega) (by omega) (by omega)
  have x2 := vl_mul x1 hc hm (by omega) (by omega) (by omega) (by omega)
  have e : 1062 + dk - 1074 + dc - 1074 = 1062 := by omega
  rw [e] at x2
  exact vl_eq x2 ha
theorem back1 (ha : grid m a) (hm : m.natAbs < 2 ^ 53) (hk : vl 1 dk k) (hc : vl 1 dc c) (h1 : 1000 ≤ dk) (h2 : 1000 ≤ dc) (h3 : dk + dc = 2148) : feq (fmul (fneg (fmul (fneg a) k)) c) a = true := by
  have x0 := vl_neg (e := 1062) ha
  have x1 := vl_mul x0 hk (by omega) (by decide) (by omega) (by omega) (by omega)
  have x2 := vl_mul (vl_neg x1) hc (by omega) (by omega) (by omega) (by omega) (by omega)
  have e : 1062 + dk - 1074 + dc - 1074 = 1062 := by omega
  rw [e, Int.neg_neg] at x2
  exact vl_eq x2 ha
theorem back2 (ha : grid m a) (hm : m.natAbs < 2 ^ 53) (hk : vl 1 dk k) (hc : vl 1 dc c) (h1 : 1000 ≤ dk) (h2 : 1000 ≤ dc) (h3 : dk + dc = 2148) : feq (fmul (fneg (fneg (fmul (fneg (fneg a)) k))) c) a = true := by
  have x0 := vl_neg (vl_neg (e := 1062) ha)
  have x1 := vl_mul x0 hk (by omega) (by decide) (by omega) (by omega) (by omega)
  have x2 := vl_mul (vl_neg (vl_neg x1)) hc (by omega) (by omega) (by omega) (by omega) (by omega)
  have e : 1062 + dk - 1074 + dc - 1074 = 1062 := by omega
  rw [e, Int.neg_neg, Int.neg_neg] at x2
  exact vl_eq x2 ha
end
theorem grid_neg {m : Int} {x : Nat} (h : grid m x) : grid (-m) (fneg x) := vl_neg (e := 1062) h
/-- a sample turned by quarters -/
def trn : Nat → Smp → Smp
  | 0, s => s
  | 1, s => (fneg s.2.1, s.1, s.2.2)
  | 2, s => (fneg s.1, fneg s.2.1, s.2.2)
  | _, s => (fneg (fneg s.2.1), fneg s.1, s.2.2)
def trI : Nat → Int × Int → Int × Int
  | 0, s => s
  | 1, s => (-s.2, s.1)
  | 2, s => (-s.1, -s.2)
  | _, s => (s.2, -s.1)
theorem trn_grid {n : Nat} {s : Smp} {z : Int × Int} (h1 : grid z.1 s.1) (h2 : grid z.2 s.2.1) : grid (trI n z).1 (trn n s).1 ∧ grid (trI n z).2 (trn n s).2.1 ∧ (trn n s).2.2 = s.2.2 := by
  match n with
  | 0 => exact ⟨h1, h2, rfl⟩
  | 1 => exact ⟨grid_neg h2, h1, rfl⟩
  | 2 => exact ⟨grid_neg h1, grid_neg h2, rfl⟩
  | k + 3 =>
    refine ⟨?_, grid_neg h1, rfl⟩
    have := grid_neg (grid_neg h2)
    rw [Int.neg_neg] at this
    exact this
theorem trI_abs (n : Nat) (z : Int × Int) : ((trI n z).1.natAbs = z.1.natAbs ∧ (trI n z).2.natAbs = z.2.natAbs) ∨ ((trI n z).1.natAbs = z.2.natAbs ∧ (trI n z).2.natAbs = z.1.natAbs) := by
  match n with
  | 0 => exact .inl ⟨rfl, rfl⟩
  | 1 => exact .inr ⟨by simp [trI], by simp [trI]⟩
  | 2 => exact .inl ⟨by simp [trI], by simp [trI]⟩
  | k + 3 => exact .inr ⟨by simp [trI], by simp [trI]⟩
def szG (k : Nat) : Nat := bif decide (393216 ≤ k) then 4607182418800017408 else bif decide (196608 ≤ k) then 4602678819172646912 else 4598175219545276416
theorem rk96 : rk 4636455816377925632 = 393216 * 2 ^ 1062 := by kernel_rfl
theorem rk48 : rk 4631952216750555136 = 196608 * 2 ^ 1062 := by kernel_rfl
theorem fSize_grid {m : Int} {x : Nat} (h : grid m x) : fSize x = szG m.natAbs := by
  have n1 : isNaN 4636455816377925632 = false := by decide
  have n2 : isNaN 4631952216750555136 = false := by decide
  unfold fSize szG
  rw [fge_rk, fge_rk, (absF_rk x).1, (absF_rk x).2, n1, n2, grid_nan h, grid_rk h, rk96, rk48, abs_unit]
  simp only [le_unit, Bool.not_false, Bool.true_and]
  congr 1
  · exact decide_eq_decide.2 (by omega)
  · congr 1
    exact decide_eq_decide.2 (by omega)
def qI (m n : Int) : Int := if m.natAbs < n.natAbs then (if n < 0 then 3 else 1) else (if m < 0 then 2 else 0)
theorem outcome_grid {p m n : Int} {a b : Nat} (ha : grid m a) (hb : grid n b) : outcome p a b (useD a b) = .tup [.agg [.int .i64 p, .flt (szG (max m.natAbs n.natAbs)), .int .i64 (qI m n)], .int .i64 0] := by
  unfold outcome
  rw [useD_grid ha hb, fSize_grid ha, fSize_grid hb, neg_grid ha, neg_grid hb]
  unfold qI
  by_cases h : m.natAbs < n.natAbs
  · rw [if_pos h, decide_eq_true h]
    have hx : max m.natAbs n.natAbs = n.natAbs := by omega
    rw [hx]
    simp only [cond_true]
    by_cases h2 : n < 0
    · rw [if_pos h2, decide_eq_true h2]; rfl
    · rw [if_neg h2, decide_eq_false h2]; rfl
  · rw [if_neg h, decide_eq_false h]
    have hx : max m.natAbs n.natAbs = m.natAbs := by omega
    rw [hx]
    simp only [cond_false]
    by_cases h2 : m < 0
    · rw [if_pos h2, decide_eq_true h2]; rfl
    · rw [if_neg h2, decide_eq_false h2]; rfl
theorem qI_turn {n : Nat} (hn : n < 4) {z : Int × Int} (h : z.1.natAbs ≠ z.2.natAbs) : qI (trI n z).1 (trI n z).2 = (qI z.1 z.2 + n).tmod 4 := by
  have hq : ∀ r : Int, 0 ≤ r → r.tmod 4 = r % 4 := fun r hr => Int.tmod_eq_emod_of_nonneg hr
  rw [hq _ (by unfold qI; split <;> split <;> omega)]
  obtain ⟨x, y⟩ := z
  match n, hn with
  | 0, _ => simp only [trI]; unfold qI; split <;> split <;> omega
  | 1, _ => simp only [trI] at h ⊢; unfold qI; simp only [Int.natAbs_neg]; (repeat' split) <;> omega
  | 2, _ => simp only [trI] at h ⊢; unfold qI; simp only [Int.natAbs_neg]; (repeat' split) <;> omega
  | 3, _ => simp only [trI] at h ⊢; unfold qI; simp only [Int.natAbs_neg]; (repeat' split) <;> omega
end Go.Proofs.Ytnccnmeecngopaa.Fw
