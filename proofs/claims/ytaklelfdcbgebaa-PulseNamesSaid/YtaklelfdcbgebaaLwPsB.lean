/- pulse.plain is the document's Plain at 1 and at 128; spoken for. -/
import Derived.Test.YtaklelfdcbgebaaLwPsA
import Derived.Test.YtaklelfdcbgebaaFwGr
set_option maxRecDepth 100000
set_option maxHeartbeats 4000000
set_option exponentiation.threshold 4000
set_option linter.unusedSimpArgs false
set_option linter.unusedVariables false
namespace Go.Proofs.Ytaklelfdcbgebaa.Fw
open Go Go.RowKit
theorem fint_zero {a : Nat} (ha : fin a) : fin (fint .zero a) ∧ fv (fint .zero a) = (fv a).tdiv (2 ^ 1074) * 2 ^ 1074 := by
  obtain ⟨s, m, i, h, hp⟩ := ha
  obtain ⟨q1, q2⟩ := fint_parts .zero h
  refine ⟨q1, ?_⟩
  obtain ⟨d1, _⟩ := parts_div (m := m) hp
  rw [q2, fv_of h, cut_eq]
  simp only [oneMore, Bool.toNat_false, Nat.add_zero]
  rw [← d1]
  unfold Ieee.signed
  simp only [Nat.shiftLeft_eq]
  generalize m * 2 ^ (i + 1074).toNat = N
  have hcast : (2 : Int) ^ 1074 = ((2 ^ 1074 : Nat) : Int) := by simp
  rw [hcast]
  generalize (2 : Nat) ^ 1074 = g
  cases s with
  | false => simp only [Bool.false_eq_true, if_false]; rfl
  | true => simp only [if_true]; rw [Int.neg_tdiv, Int.neg_mul]; rfl
theorem fin_of_rk {x : Nat} (h : isNaN x = false) (hb : (rk x).natAbs < 2 ^ 3000) : fin x := by
  unfold isNaN at h
  unfold rk at hb
  cases hr : Ieee.double.read x with
  | number s n i => exact ⟨s, n, i, hr, read_place hr⟩
  | nan s f => rw [hr] at h; cases h
  | infinity s =>
    rw [hr] at hb
    exfalso
    have e : (drk (.infinity s)).natAbs = 2 ^ 3000 := by
      show ((if s then -2 ^ 3000 else 2 ^ 3000 : Int)).natAbs = _
      cases s
      · rw [if_neg (by decide), Int.natAbs_pow]; rfl
      · rw [if_pos rfl, Int.natAbs_neg, Int.natAbs_pow]; rfl
    rw [e] at hb
    exact Nat.lt_irrefl _ hb
/-- a number made whole, and to an integer and back -/
theorem whole_same {y : Nat} (hy : fin y) (hb : (fv y).natAbs < 2 ^ 1100) : ∃ n : Int, ftoInt y .i64 = some n ∧ feq y (fofInt n) = feq (fint .zero y) y := by
  obtain ⟨z1, z2⟩ := fint_zero hy
  have ht := toInt_fin hy
  have hn : ((fv y).tdiv (2 ^ 1074)).natAbs < 2 ^ 26 := by
    rw [Int.natAbs_tdiv, Int.natAbs_pow]
    exact Nat.div_lt_of_lt_mul (by rw [show (2 : Int).natAbs = 2 from rfl, ← Nat.pow_add]; exact hb)
  refine ⟨(fv y).tdiv (2 ^ 1074), ?_, ?_⟩
  · unfold ftoInt
    rw [ht]
    simp only
    generalize (fv y).tdiv (2 ^ 1074) = r at hn ⊢
    have h1 : IntKind.i64.min ≤ r ∧ r ≤ IntKind.i64.max := by
      have e1 : IntKind.i64.min = -9223372036854775808 := rfl
      have e2 : IntKind.i64.max = 9223372036854775807 := rfl
      omega
    rw [if_pos h1]
  · obtain ⟨f1, f2⟩ := fofInt_exact (n := (fv y).tdiv (2 ^ 1074)) (Nat.lt_trans hn (by decide))
    rw [feq_fin hy f1, feq_fin z1 hy, f2, z2]
    exact decide_eq_decide.2 ⟨Eq.symm, Eq.symm⟩
def plainF (x m : Nat) : Bool := fle (absF x) m && feq (fint .zero (fmul x 4634204016564240384)) (fmul x 4634204016564240384)
theorem sixtyfour : Ieee.double.read 4634204016564240384 = .number false (2 ^ 52) ((6 : Nat) - 52 : Int) := by decide
def okM (m : Nat) : Prop := m = 4607182418800017408 ∨ m = 4638707616191610880
theorem okM_rk {m : Nat} (h : okM m) : isNaN m = false ∧ 0 ≤ rk m ∧ rk m ≤ 2 ^ 1081 := by
  rcases h with rfl | rfl
  · exact ⟨by decide, of_decide_eq_true (by kernel_rfl), of_decide_eq_true (by kernel_rfl)⟩
  · exact ⟨by decide, of_decide_eq_true (by kernel_rfl), of_decide_eq_true (by kernel_rfl)⟩
theorem within_same {x m : Nat} (h : okM m) : (fge x (fneg m) && fle x m) = fle (absF x) m := by
  obtain ⟨h1, h2, _⟩ := okM_rk h
  rw [fge_rk, fle_rk, fle_rk, (fneg_rk m).1, (fneg_rk m).2, (absF_rk x).1, (absF_rk x).2, h1]
  generalize rk m = M at *
  generalize rk x = X at *
  cases isNaN x with
  | true => rfl
  | false =>
    simp only [Bool.not_false, Bool.true_and]
    rw [← Bool.decide_and]
    exact decide_eq_decide.2 (by omega)
/-- a plain number is finite, and 64 times it is exact -/
theorem plain_fin {x m : Nat} (hm : okM m) (h : fle (absF x) m = true) : fin x ∧ (fv x).natAbs ≤ 2 ^ 1081 := by
  obtain ⟨h1, h2, h3⟩ := okM_rk hm
  rw [fle_rk, (absF_rk x).1, (absF_rk x).2, h1] at h
  simp only [Bool.and_eq_true, decide_eq_true_eq, Bool.not_eq_true'] at h
  obtain ⟨⟨hx, _⟩, hle⟩ := h
  have hb : ((rk x).natAbs : Int) ≤ 2 ^ 1081 := Int.le_trans hle h3
  have hb' : (rk x).natAbs ≤ 2 ^ 1081 := by
    have e : (2 : Int) ^ 1081 = ((2 ^ 1081 : Nat) : Int) := by rw [Int.natCast_pow]; rfl
    rw [e] at hb
    exact Int.ofNat_le.1 hb
  have hf : fin x := fin_of_rk hx (Nat.lt_of_le_of_lt hb' (Nat.pow_lt_pow_right (by decide) (by decide)))
  exact ⟨hf, by rw [← rk_fin hf]; exact hb'⟩
theorem mul64 {x m : Nat} (hm : okM m) (h : fle (absF x) m = true) : fin (fmul x 4634204016564240384) ∧ fv (fmul x 4634204016564240384) = fv x * 2 ^ 6 ∧ (fv (fmul x 4634204016564240384)).natAbs < 2 ^ 1100 := by
  obtain ⟨hf, hb⟩ := plain_fin hm h
  have hlt : (fv x).natAbs * 2 ^ 6 ≤ 2 ^ 1087 := by
    calc (fv x).natAbs * 2 ^ 6 ≤ 2 ^ 1081 * 2 ^ 6 := Nat.mul_le_mul_right _ hb
      _ = 2 ^ 1087 := by rw [← Nat.pow_add]
  obtain ⟨h1, h2⟩ := fmul_pow2 (k := 6) hf sixtyfour (Nat.lt_of_le_of_lt hlt (Nat.pow_lt_pow_right (by decide) (by decide)))
  refine ⟨h1, h2, ?_⟩
  rw [h2, Int.natAbs_mul, Int.natAbs_pow]
  exact Nat.lt_of_le_of_lt hlt (Nat.pow_lt_pow_right (by decide) (by decide))
theorem den_plain {L n x m : Nat} : den ⟨fnOf, specAbs, L⟩ (n+2) 36 [.flt x, .flt m] = some (.v (.bool (plainF x m))) := by
  unfold plainF
  cases h : fle (absF x) m with
  | true => exact pp_0 h (call_den ptr_0)
  | false => exact pp_1 h
def szF (a : Nat) : Nat := bif flt a 0 then fneg a else a
def sizeSem7 : List AV → Option AV
  | [.flt a] => some (.flt (szF a))
  | _ => none
def plainSem : List AV → Option AV
  | [.flt x, .flt m] => if m = 4607182418800017408 ∨ m = 4638707616191610880 then some (.v (.bool (plainF x m))) else none
  | _ => none
theorem plainSem_is {avs : List AV} {r : AV} (h : plainSem avs = some r) : ∃ x m, avs = [.flt x, .flt m] ∧ okM m ∧ r = .v (.bool (plainF x m)) := by
  unfold plainSem at h
  split at h
  · split at h
    · rename_i x m hm; cases h; exact ⟨x, m, rfl, hm, rfl⟩
    · cases h
  · cases h
def specP1 : FuncId → Option (List AV → Option AV) := fun f => if f = 36 then some plainSem else specAbs f
theorem spec_p1 (L : Nat) : SpecOk Try.prog ⟨fnOf, specP1, L⟩ :=
  spec_add0 (spec_abs 0 fnOf) (fun L => fnsOk _ _) follows 36 plainSem ⟨_, Try.func36, ne_of_beq_false (by kernel_rfl), by kernel_rfl⟩ fun avs r h => by
    obtain ⟨x, m, rfl, hm, rfl⟩ := plainSem_is h
    exact ⟨0, 2, den_plain⟩
end Go.Proofs.Ytaklelfdcbgebaa.Fw
