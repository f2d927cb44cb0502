/- Floats as whole numbers of 2^-1074, part eight: the order of all floats, the infinities among them. -/
import Derived.Test.YtnccnmeecngopaaFwGr7
import Derived.Test.YtnccnmeecngopaaFwAbs
set_option linter.unusedVariables false
set_option linter.unusedSimpArgs false
set_option exponentiation.threshold 4000
namespace Go.Proofs.Ytnccnmeecngopaa.Fw
open Go
/-- a datum of the other sign; without its sign -/
def dneg : Ieee.Datum → Ieee.Datum
  | .number s n i => .number (!s) n i
  | .infinity s => .infinity (!s)
  | .nan s f => .nan (!s) f
def dabs : Ieee.Datum → Ieee.Datum
  | .number _ n i => .number false n i
  | .infinity _ => .infinity false
  | .nan _ f => .nan false f
theorem read_neg (a : Nat) : Ieee.double.read (a ^^^ 2 ^ 63) = dneg (Ieee.double.read a) := by
  have hs : Ieee.double.signWeight = 2 ^ 63 := by decide
  have e1 : (a ^^^ 2 ^ 63) % 2 ^ 63 = a % 2 ^ 63 := by rw [Nat.xor_mod_two_pow, Nat.mod_self, Nat.xor_zero]
  have e2 : ((a ^^^ 2 ^ 63) / 2 ^ 63 % 2 == 1) = !(a / 2 ^ 63 % 2 == 1) := by
    have h1 : (a ^^^ 2 ^ 63) / 2 ^ 63 = (a / 2 ^ 63) ^^^ 1 := by
      rw [← Nat.shiftRight_eq_div_pow, ← Nat.shiftRight_eq_div_pow, Nat.shiftRight_xor_distrib]
      rfl
    have h2 : ((a / 2 ^ 63) ^^^ 1) % 2 = (a / 2 ^ 63 % 2) ^^^ 1 := by
      have := Nat.xor_mod_two_pow (a := a / 2 ^ 63) (b := 1) (n := 1)
      simpa using this
    rw [h1, h2]
    rcases Nat.mod_two_eq_zero_or_one (a / 2 ^ 63) with h3 | h3 <;> rw [h3] <;> rfl
  unfold Ieee.Format.read
  simp only [hs, e1, e2]
  split
  · rfl
  · split
    · rfl
    · split <;> rfl
theorem read_abs (a : Nat) : Ieee.double.read (a % 2 ^ 63) = dabs (Ieee.double.read a) := by
  have hs : Ieee.double.signWeight = 2 ^ 63 := by decide
  have e1 : a % 2 ^ 63 % 2 ^ 63 = a % 2 ^ 63 := Nat.mod_mod _ _
  have e2 : (a % 2 ^ 63 / 2 ^ 63 % 2 == 1) = false := by
    rw [Nat.div_eq_of_lt (Nat.mod_lt _ (by decide))]; rfl
  unfold Ieee.Format.read
  simp only [hs, e1, e2]
  split
  · rfl
  · split
    · rfl
    · split <;> rfl
/-- where a float stands among all -/
def drk : Ieee.Datum → Int
  | .number s n i => Ieee.signed s n (i + 1074).toNat
  | .infinity s => if s then -2 ^ 3000 else 2 ^ 3000
  | .nan _ _ => 0
def rk (x : Nat) : Int := drk (Ieee.double.read x)
theorem rk_fin {x : Nat} (h : fin x) : rk x = fv x := by
  obtain ⟨s, n, i, h, hi⟩ := h
  unfold rk; rw [fv_of h, h]; rfl
theorem signed_small {x : Nat} {s : Bool} {n : Nat} {i : Int} (h : Ieee.double.read x = .number s n i) : (Ieee.signed s n (i + 1074).toNat).natAbs < 2 ^ 3000 := by
  rw [signed_abs]
  have h1 := read_mag h
  have h2 := read_top h
  have h3 : 2 ^ (i + 1074).toNat ≤ 2 ^ 2045 := Nat.pow_le_pow_right (by decide) (by omega)
  calc n * 2 ^ (i + 1074).toNat ≤ 2 ^ 53 * 2 ^ 2045 := Nat.mul_le_mul (Nat.le_of_lt h1) h3
    _ < 2 ^ 3000 := by rw [← Nat.pow_add]; exact Nat.pow_lt_pow_right (by decide) (by decide)
theorem rk_small {x : Nat} (h : fin x) : (rk x).natAbs < 2 ^ 3000 := by
  rw [rk_fin h]
  obtain ⟨s, n, i, h, hi⟩ := h
  rw [fv_of h]
  exact signed_small h
theorem cmp_lt {x y : Int} (h : x < y) : compare x y = .lt := (cmp_cases x y).1.2 h
theorem cmp_gt {x y : Int} (h : y < x) : compare x y = .gt := (cmp_cases x y).2.2.2 h
theorem big_pos : (0 : Int) < 2 ^ 3000 := Int.pow_pos (by decide)
theorem abs_lt {v : Int} (h : v.natAbs < 2 ^ 3000) : -2 ^ 3000 < v ∧ v < 2 ^ 3000 := by
  have : ((2 ^ 3000 : Nat) : Int) = 2 ^ 3000 := by rw [Int.natCast_pow]; rfl
  generalize (2 : Int) ^ 3000 = B at *
  generalize (2 : Nat) ^ 3000 = C at *
  omega
theorem ford_rk {a b : Nat} (ha : isNaN a = false) (hb : isNaN b = false) : ford a b = some (compare (rk a) (rk b)) := by
  have hB := big_pos
  unfold isNaN at ha hb
  cases ra : Ieee.double.read a with
  | nan s f => rw [ra] at ha; cases ha
  | number s m i =>
    have fa : fin a := ⟨_, _, _, ra, read_place ra⟩
    cases rb : Ieee.double.read b with
    | nan s f => rw [rb] at hb; cases hb
    | number t n j =>
      have fb : fin b := ⟨_, _, _, rb, read_place rb⟩
      rw [ford_fin fa fb, rk_fin fa, rk_fin fb]
    | infinity t =>
      obtain ⟨h1, h2⟩ := abs_lt (rk_small fa)
      unfold ford Ieee.Format.order
      rw [ra, rb]
      have e : rk b = if t then -2 ^ 3000 else 2 ^ 3000 := by unfold rk; rw [rb]; rfl
      rw [e]
      cases t with
      | true => rw [if_pos rfl, cmp_gt h1]; rfl
      | false => rw [if_neg (by decide), cmp_lt h2]; rfl
  | infinity s =>
    have ea : rk a = if s then -2 ^ 3000 else 2 ^ 3000 := by unfold rk; rw [ra]; rfl
    cases rb : Ieee.double.read b with
    | nan s f => rw [rb] at hb; cases hb
    | number t n j =>
      have fb : fin b := ⟨_, _, _, rb, read_place rb⟩
      obtain ⟨h1, h2⟩ := abs_lt (rk_small fb)
      unfold ford Ieee.Format.order
      rw [ra, rb, ea]
      cases s with
      | true => rw [if_pos rfl, cmp_lt h1]; rfl
      | false => rw [if_neg (by decide), cmp_gt h2]; rfl
    | infinity t =>
      unfold ford Ieee.Format.order
      have eb : rk b = if t then -2 ^ 3000 else 2 ^ 3000 := by unfold rk; rw [rb]; rfl
      rw [ra, rb, ea, eb]
      have hlt : (-2 ^ 3000 : Int) < 2 ^ 3000 := by generalize (2 : Int) ^ 3000 = B at *; omega
      cases s <;> cases t
      · rw [if_neg (by decide), (cmp_cases _ _).2.1.2 rfl]; rfl
      · rw [if_neg (by decide), if_pos rfl, cmp_gt hlt]; rfl
      · rw [if_pos rfl, if_neg (by decide), cmp_lt hlt]; rfl
      · rw [if_pos rfl, (cmp_cases _ _).2.1.2 rfl]; rfl
theorem ford_nan {a b : Nat} (h : isNaN a = true ∨ isNaN b = true) : ford a b = none := by
  unfold isNaN at h
  unfold ford Ieee.Format.order
  cases ra : Ieee.double.read a <;> cases rb : Ieee.double.read b <;> rw [ra, rb] at h <;> rcases h with h | h <;> first | rfl | cases h
theorem cmp_dec (x y : Int) : (compare x y == Ordering.lt) = decide (x < y) ∧ (compare x y == Ordering.gt) = decide (y < x) ∧ (compare x y == Ordering.eq) = decide (x = y) := by
  obtain ⟨h1, h2, h3⟩ := cmp_cases x y
  cases hc : compare x y with
  | lt => have := h1.1 hc; refine ⟨?_, ?_, ?_⟩ <;> simp <;> omega
  | eq => have := h2.1 hc; refine ⟨?_, ?_, ?_⟩ <;> simp <;> omega
  | gt => have := h3.1 hc; refine ⟨?_, ?_, ?_⟩ <;> simp <;> omega
theorem some_beq (x y : Ordering) : (some x == some y) = (x == y) := rfl
theorem flt_rk (a b : Nat) : flt a b = (!isNaN a && !isNaN b && decide (rk a < rk b)) := by
  unfold flt
  cases ha : isNaN a with
  | true => rw [ford_nan (.inl ha)]; rfl
  | false =>
    cases hb : isNaN b with
    | true => rw [ford_nan (.inr hb)]; rfl
    | false => rw [ford_rk ha hb, some_beq, (cmp_dec _ _).1]; rfl
theorem fgt_rk (a b : Nat) : fgt a b = (!isNaN a && !isNaN b && decide (rk b < rk a)) := by
  unfold fgt
  cases ha : isNaN a with
  | true => rw [ford_nan (.inl ha)]; rfl
  | false =>
    cases hb : isNaN b with
    | true => rw [ford_nan (.inr hb)]; rfl
    | false => rw [ford_rk ha hb, some_beq, (cmp_dec _ _).2.1]; rfl
theorem feq_rk (a b : Nat) : feq a b = (!isNaN a && !isNaN b && decide (rk a = rk b)) := by
  unfold feq
  cases ha : isNaN a with
  | true => rw [ford_nan (.inl ha)]; rfl
  | false =>
    cases hb : isNaN b with
    | true => rw [ford_nan (.inr hb)]; rfl
    | false => rw [ford_rk ha hb, some_beq, (cmp_dec _ _).2.2]; rfl
theorem fge_rk (a b : Nat) : fge a b = (!isNaN a && !isNaN b && decide (rk b ≤ rk a)) := by
  unfold fge
  cases ha : isNaN a with
  | true => rw [ford_nan (.inl ha)]; rfl
  | false =>
    cases hb : isNaN b with
    | true => rw [ford_nan (.inr hb)]; rfl
    | false =>
      rw [ford_rk ha hb, some_beq, some_beq, (cmp_dec _ _).2.1, (cmp_dec _ _).2.2]
      show _ = decide _
      rw [← Bool.decide_or]
      exact decide_eq_decide.2 (by omega)
theorem fle_rk (a b : Nat) : fle a b = (!isNaN a && !isNaN b && decide (rk a ≤ rk b)) := by
  unfold fle
  cases ha : isNaN a with
  | true => rw [ford_nan (.inl ha)]; rfl
  | false =>
    cases hb : isNaN b with
    | true => rw [ford_nan (.inr hb)]; rfl
    | false =>
      rw [ford_rk ha hb, some_beq, some_beq, (cmp_dec _ _).1, (cmp_dec _ _).2.2]
      show _ = decide _
      rw [← Bool.decide_or]
      exact decide_eq_decide.2 (by omega)
theorem drk_neg (d : Ieee.Datum) : drk (dneg d) = - drk d := by
  have hB := big_pos
  cases d with
  | number s n i => show Ieee.signed (!s) n _ = - Ieee.signed s n _; unfold Ieee.signed; cases s <;> simp
  | infinity s => show (if (!s) then (-2 ^ 3000 : Int) else 2 ^ 3000) = - (if s then (-2 ^ 3000 : Int) else 2 ^ 3000); cases s <;> simp
  | nan s f => rfl
theorem drk_abs (d : Ieee.Datum) : drk (dabs d) = ((drk d).natAbs : Int) := by
  cases d with
  | number s n i => show Ieee.signed false n _ = ((Ieee.signed s n _).natAbs : Int); rw [signed_abs]; unfold Ieee.signed; rw [Nat.shiftLeft_eq]; rfl
  | infinity s =>
    show (if false then (-2 ^ 3000 : Int) else 2 ^ 3000) = (((if s then (-2 ^ 3000 : Int) else 2 ^ 3000)).natAbs : Int)
    have hB := big_pos
    generalize (2 : Int) ^ 3000 = B at *
    cases s <;> simp <;> omega
  | nan s f => rfl
theorem nan_dneg (d : Ieee.Datum) : (dneg d).isNaN = d.isNaN := by cases d <;> rfl
theorem nan_dabs (d : Ieee.Datum) : (dabs d).isNaN = d.isNaN := by cases d <;> rfl
theorem qnan_nan : isNaN qnan = true := by decide
theorem rk_qnan : rk qnan = 0 := by decide
theorem rk_nan {a : Nat} (h : isNaN a = true) : rk a = 0 := by
  unfold isNaN at h; unfold rk
  cases ra : Ieee.double.read a <;> rw [ra] at h <;> first | rfl | cases h
theorem fneg_rk (a : Nat) : isNaN (fneg a) = isNaN a ∧ rk (fneg a) = - rk a := by
  have h1 : isNaN (a ^^^ 2 ^ 63) = isNaN a := by unfold isNaN; rw [read_neg, nan_dneg]
  have h2 : rk (a ^^^ 2 ^ 63) = - rk a := by unfold rk; rw [read_neg, drk_neg]
  unfold fneg canon
  rw [h1]
  cases h : isNaN a with
  | true => rw [if_pos rfl, rk_nan h]; exact ⟨qnan_nan, by rw [rk_qnan]; rfl⟩
  | false => rw [if_neg (by decide)]; exact ⟨by rw [h1, h], h2⟩
theorem absF_rk (a : Nat) : isNaN (absF a) = isNaN a ∧ rk (absF a) = ((rk a).natAbs : Int) := by
  have h1 : isNaN (a % 2 ^ 63) = isNaN a := isNaN_low a
  have h2 : rk (a % 2 ^ 63) = ((rk a).natAbs : Int) := by unfold rk; rw [read_abs, drk_abs]
  unfold absF
  cases h : isNaN a with
  | true => rw [if_pos rfl, rk_nan h]; exact ⟨qnan_nan, by rw [rk_qnan]; rfl⟩
  | false => rw [if_neg (by decide)]; exact ⟨by rw [h1, h], h2⟩
end Go.Proofs.Ytnccnmeecngopaa.Fw
