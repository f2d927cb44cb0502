/- Floats as whole numbers of 2^-1074, part six: signs, integers, to the nearest whole number. -/
import Derived.Test.YtnccnmeecngopaaFwGr5
set_option linter.unusedVariables false
set_option linter.unusedSimpArgs false
set_option exponentiation.threshold 3000
namespace Go.Proofs.Ytnccnmeecngopaa.Fw
open Go

theorem read_flip (a : Nat) {s : Bool} {n : Nat} {i : Int} (h : Ieee.double.read a = .number s n i) : Ieee.double.read (a ^^^ 2 ^ 63) = .number (!s) n i := by
  have hs : Ieee.double.signWeight = 2 ^ 63 := by decide
  have e1 : (a ^^^ 2 ^ 63) % 2 ^ 63 = a % 2 ^ 63 := by rw [Nat.xor_mod_two_pow, Nat.mod_self, Nat.xor_zero]
  have e2 : ((a ^^^ 2 ^ 63) / 2 ^ 63 % 2 == 1) = !(a / 2 ^ 63 % 2 == 1) := by
    have h1 : (a ^^^ 2 ^ 63) / 2 ^ 63 = (a / 2 ^ 63) ^^^ 1 := by
      rw [← Nat.shiftRight_eq_div_pow, ← Nat.shiftRight_eq_div_pow, Nat.shiftRight_xor_distrib]
      rfl
    have h2 : ((a / 2 ^ 63) ^^^ 1) % 2 = (a / 2 ^ 63 % 2) ^^^ 1 := by
      have := Nat.xor_mod_two_pow (a := a / 2 ^ 63) (b := 1) (n := 1)
      simpa using this
    rw [h1, h2]
    rcases Nat.mod_two_eq_zero_or_one (a / 2 ^ 63) with h3 | h3 <;> rw [h3] <;> rfl
  unfold Ieee.Format.read at h ⊢
  simp only [hs, e1, e2] at h ⊢
  split at h
  · rename_i c; rw [if_pos c]; cases h; rfl
  · rename_i c
    rw [if_neg c]
    split at h
    · rename_i c2; rw [if_pos c2]; cases h; rfl
    · split at h <;> cases h
theorem fneg_fin {a : Nat} (ha : fin a) : fin (fneg a) ∧ fv (fneg a) = - fv a := by
  obtain ⟨s, m, i, h, hp⟩ := ha
  have h2 := read_flip a h
  have hf : fin (a ^^^ 2 ^ 63) := ⟨_, _, _, h2, hp⟩
  have hc : fneg a = a ^^^ 2 ^ 63 := by
    unfold fneg canon
    rw [fin_num hf]; rfl
  rw [hc]
  refine ⟨hf, ?_⟩
  rw [fv_of h2, fv_of h]
  unfold Ieee.signed
  cases s <;> simp
theorem read_low (a : Nat) {s : Bool} {n : Nat} {i : Int} (h : Ieee.double.read a = .number s n i) : Ieee.double.read (a % 2 ^ 63) = .number false n i := by
  have hs : Ieee.double.signWeight = 2 ^ 63 := by decide
  have e1 : a % 2 ^ 63 % 2 ^ 63 = a % 2 ^ 63 := Nat.mod_mod _ _
  have e2 : (a % 2 ^ 63 / 2 ^ 63 % 2 == 1) = false := by
    rw [Nat.div_eq_of_lt (Nat.mod_lt _ (by decide))]; rfl
  unfold Ieee.Format.read at h ⊢
  simp only [hs, e1, e2] at h ⊢
  split at h
  · rename_i c; rw [if_pos c]; cases h; rfl
  · rename_i c
    rw [if_neg c]
    split at h
    · rename_i c2; rw [if_pos c2]; cases h; rfl
    · split at h <;> cases h
/-- without its sign (math.Abs: 'absF' where it is spoken for) -/
theorem abs_fin {a : Nat} (ha : fin a) : fin (a % 2 ^ 63) ∧ fv (a % 2 ^ 63) = ((fv a).natAbs : Int) := by
  obtain ⟨s, m, i, h, hp⟩ := ha
  have h2 := read_low a h
  refine ⟨⟨_, _, _, h2, hp⟩, ?_⟩
  rw [fv_of h2, fv_of h, signed_abs]
  unfold Ieee.signed
  rw [Nat.shiftLeft_eq]
  rfl

/-- to an integer, towards nought -/
theorem toInt_fin {a : Nat} (ha : fin a) : (Ieee.double.read a).toInt .zero = some ((fv a).tdiv (2 ^ 1074)) := by
  obtain ⟨s, m, i, h, hp⟩ := ha
  obtain ⟨d1, _⟩ := parts_div (m := m) hp
  rw [h, fv_of h]
  unfold Ieee.Datum.toInt
  simp only [Ieee.Datum.integral]
  rw [cut_eq]
  simp only [oneMore, Bool.toNat_false, Nat.add_zero]
  rw [← d1]
  unfold Ieee.signed
  simp only [Nat.shiftLeft_eq, Nat.pow_zero, Nat.mul_one]
  generalize m * 2 ^ (i + 1074).toNat = N
  have hcast : (2 : Int) ^ 1074 = ((2 ^ 1074 : Nat) : Int) := by simp
  rw [hcast]
  generalize (2 : Nat) ^ 1074 = g
  cases s with
  | false => simp only [Bool.false_eq_true, if_false, Option.some.injEq]; rfl
  | true => simp only [if_true, Option.some.injEq]; rw [Int.neg_tdiv]; rfl

/-- to the nearest whole number, between two to the even one; of a size -/
def rne (N g : Nat) : Nat := N / g + (decide (g < 2 * (N % g)) || (g == 2 * (N % g) && N / g % 2 == 1)).toNat
theorem fint_even {a : Nat} (ha : fin a) : fin (fint .even a) ∧ (fv (fint .even a)).natAbs = rne (fv a).natAbs (2 ^ 1074) * 2 ^ 1074 ∧ (0 ≤ fv a → 0 ≤ fv (fint .even a)) ∧ (fv a ≤ 0 → fv (fint .even a) ≤ 0) := by
  obtain ⟨s, m, i, h, hp⟩ := ha
  obtain ⟨q1, q2⟩ := fint_parts .even h
  obtain ⟨d1, d2⟩ := parts_div (m := m) hp
  have hcut : Ieee.Toward.even.cut s (m <<< i.toNat) (-i).toNat = rne (fv a).natAbs (2 ^ 1074) := by
    rw [cut_eq, fv_of h, signed_abs]
    unfold oneMore rne
    rw [d1, d2]
    have hd : (-i).toNat ≤ 1074 := by omega
    have hw : 2 ^ 1074 = 2 ^ (-i).toNat * 2 ^ (1074 - (-i).toNat) := by rw [← Nat.pow_add]; congr 1; omega
    rw [hw]
    generalize m <<< i.toNat = n
    have hpos : 0 < 2 ^ (1074 - (-i).toNat) := Nat.pow_pos (by decide)
    generalize 2 ^ (1074 - (-i).toNat) = w at *
    generalize 2 ^ (-i).toNat = g at *
    have e1 : (g * w < 2 * (n % g * w)) ↔ (g < 2 * (n % g)) := by
      rw [← Nat.mul_assoc]; exact Nat.mul_lt_mul_right hpos
    have e2 : (g * w = 2 * (n % g * w)) ↔ (g = 2 * (n % g)) := by
      rw [← Nat.mul_assoc]
      exact ⟨fun h => Nat.eq_of_mul_eq_mul_right hpos h, fun h => by rw [← h]⟩
    have e3 : (g * w == 2 * (n % g * w)) = (g == 2 * (n % g)) := by
      rw [Bool.eq_iff_iff, beq_iff_eq, beq_iff_eq]; exact e2
    simp only [e1, e3]
  rw [hcut] at q2
  refine ⟨q1, by rw [q2, signed_abs], fun h0 => ?_, fun h0 => ?_⟩
  · rw [q2]
    rw [fv_of h] at h0
    unfold Ieee.signed at h0 ⊢
    cases s with
    | false => simp only [Bool.false_eq_true, if_false]; omega
    | true =>
      simp only [if_true] at h0 ⊢
      have hz : m <<< (i + 1074).toNat = 0 := by omega
      have : rne (fv a).natAbs (2 ^ 1074) = 0 := by
        rw [fv_of h, signed_abs, ← Nat.shiftLeft_eq, hz]
        rfl
      rw [this]; simp
  · rw [q2]
    rw [fv_of h] at h0
    unfold Ieee.signed at h0 ⊢
    cases s with
    | true => simp only [if_true]; omega
    | false =>
      simp only [Bool.false_eq_true, if_false] at h0 ⊢
      have hz : m <<< (i + 1074).toNat = 0 := by omega
      have : rne (fv a).natAbs (2 ^ 1074) = 0 := by
        rw [fv_of h, signed_abs, ← Nat.shiftLeft_eq, hz]
        rfl
      rw [this]; simp
end Go.Proofs.Ytnccnmeecngopaa.Fw
