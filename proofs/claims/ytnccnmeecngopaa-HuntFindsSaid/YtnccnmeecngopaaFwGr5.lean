/- Floats as whole numbers of 2^-1074, part five: made whole. -/
import Derived.Test.YtnccnmeecngopaaFwGr4
set_option linter.unusedVariables false
set_option linter.unusedSimpArgs false
set_option exponentiation.threshold 3000
namespace Go.Proofs.Ytnccnmeecngopaa.Fw
open Go

/-- one more? -/
def oneMore (way : Ieee.Toward) (s : Bool) (n g : Nat) : Bool :=
  match way with
  | .even => decide (g < 2 * (n % g)) || (g == 2 * (n % g) && n / g % 2 == 1)
  | .down => s && n % g != 0
  | .up => !s && n % g != 0
  | .zero => false
/-- the gap is never cut short where that could be seen -/
theorem cut_eq (way : Ieee.Toward) (s : Bool) (n d : Nat) : way.cut s n d = n / 2 ^ d + (oneMore way s n (2 ^ d)).toNat := by
  by_cases h : d ≤ n.log2 + 2
  · unfold Ieee.Toward.cut oneMore
    simp only [show min d (n.log2 + 2) = d by omega, Nat.shiftLeft_eq, Nat.one_mul]
    cases way <;> rfl
  · have hmin : min d (n.log2 + 2) = n.log2 + 2 := by omega
    have hlt : n < 2 ^ (n.log2 + 1) := Nat.lt_log2_self
    have hg : 2 ^ (n.log2 + 2) = 2 * 2 ^ (n.log2 + 1) := by rw [Nat.pow_succ, Nat.mul_comm]
    have hd : 2 ^ (n.log2 + 2) ≤ 2 ^ d := Nat.pow_le_pow_right (by decide) (by omega)
    have a1 : n / 2 ^ (n.log2 + 2) = 0 := Nat.div_eq_of_lt (by omega)
    have a2 : n % 2 ^ (n.log2 + 2) = n := Nat.mod_eq_of_lt (by omega)
    have b1 : n / 2 ^ d = 0 := Nat.div_eq_of_lt (by omega)
    have b2 : n % 2 ^ d = n := Nat.mod_eq_of_lt (by omega)
    unfold Ieee.Toward.cut oneMore
    simp only [hmin, Nat.shiftLeft_eq, Nat.one_mul, a1, a2, b1, b2]
    generalize 2 ^ (n.log2 + 2) = g at *
    generalize 2 ^ d = g2 at *
    cases way with
    | even =>
      have c1 : ¬ g < 2 * n := by omega
      have c2 : ¬ g2 < 2 * n := by omega
      simp [c1, c2]
    | down => rfl
    | up => rfl
    | zero => rfl

theorem read_top {x : Nat} {s : Bool} {n : Nat} {i : Int} (h : Ieee.double.read x = .number s n i) : i ≤ 971 := by
  have hl : Ieee.double.leastPlace = -1074 := by decide
  have hi : Ieee.double.infRung = 2047 * 2 ^ 52 := by decide
  have hb : Ieee.double.binade = 2 ^ 52 := by decide
  unfold Ieee.Format.read at h
  simp only [hl, hi, hb] at h
  split at h
  · cases h; omega
  · split at h
    · rename_i h1 h2
      cases h
      have : x % Ieee.double.signWeight / 2 ^ 52 < 2047 := by omega
      omega
    · split at h <;> cases h
theorem fits_whole {c : Nat} (h : c ≤ 2 ^ 53) : fits (c * 2 ^ 1074) := by
  rcases Nat.lt_or_ge c (2 ^ 53) with h1 | h1
  · exact fits_small h1 (by decide)
  · have e : c = 2 ^ 52 * 2 := by omega
    rw [e, Nat.mul_assoc, ← Nat.pow_succ']
    exact fits_small (by decide) (by decide)

/-- what comes of making a number whole, as parts: sign, size -/
theorem fint_parts (way : Ieee.Toward) {a : Nat} {s : Bool} {m : Nat} {i : Int} (h : Ieee.double.read a = .number s m i) :
    fin (fint way a) ∧ fv (fint way a) = Ieee.signed s (way.cut s (m <<< i.toNat) (-i).toNat) 1074 := by
  have hp := read_place h
  have ht := read_top h
  have hm := read_mag h
  have hn : isNaN a = false := fin_num ⟨_, _, _, h, hp⟩
  unfold fint
  rw [hn, h]
  simp only [Bool.false_eq_true, if_false, Ieee.Datum.integral, Ieee.Format.write]
  have hf : fits (way.cut s (m <<< i.toNat) (-i).toNat * 2 ^ ((0 : Int) + 1074).toNat) := by
    show fits (_ * 2 ^ 1074)
    rw [cut_eq]
    rcases Int.lt_or_le i 0 with hi | hi
    · have e1 : i.toNat = 0 := by omega
      rw [e1, Nat.shiftLeft_zero]
      refine fits_whole ?_
      have h1 : m / 2 ^ (-i).toNat ≤ m / 2 := by
        refine Nat.div_le_div_left ?_ (by decide)
        calc 2 = 2 ^ 1 := rfl
          _ ≤ 2 ^ (-i).toNat := Nat.pow_le_pow_right (by decide) (by omega)
      have h2 : (oneMore way s m (2 ^ (-i).toNat)).toNat ≤ 1 := Bool.toNat_le _
      omega
    · have e1 : (-i).toNat = 0 := by omega
      rw [e1, Nat.pow_zero, Nat.div_one]
      have h2 : oneMore way s (m <<< i.toNat) 1 = false := by
        unfold oneMore
        cases way <;> simp [Nat.mod_one]
      rw [h2, Nat.shiftLeft_eq]
      simp only [Bool.toNat_false, Nat.add_zero]
      rw [Nat.mul_assoc, ← Nat.pow_add]
      exact fits_small hm (by omega)
  obtain ⟨q1, q2⟩ := write_exact s (place := 0) (by omega) hf
  exact ⟨q1, q2⟩

/-- the whole part of the size, and what is left -/
theorem parts_div {m : Nat} {i : Int} (hp : -1074 ≤ i) : m * 2 ^ (i + 1074).toNat / 2 ^ 1074 = m <<< i.toNat / 2 ^ (-i).toNat ∧ m * 2 ^ (i + 1074).toNat % 2 ^ 1074 = (m <<< i.toNat % 2 ^ (-i).toNat) * 2 ^ (1074 - (-i).toNat) := by
  rcases Int.lt_or_le i 0 with hi | hi
  · obtain ⟨d, hd⟩ : ∃ d : Nat, (-i).toNat = d ∧ d ≤ 1074 ∧ (i + 1074).toNat = 1074 - d ∧ i.toNat = 0 := ⟨(-i).toNat, rfl, by omega, by omega, by omega⟩
    obtain ⟨h1, h2, h3, h4⟩ := hd
    rw [h1, h3, h4, Nat.shiftLeft_zero]
    have e : (2 : Nat) ^ 1074 = 2 ^ d * 2 ^ (1074 - d) := by rw [← Nat.pow_add]; congr 1; omega
    rw [e, Nat.mul_div_mul_right _ _ (Nat.pow_pos (by decide)), Nat.mul_mod_mul_right]
    exact ⟨rfl, rfl⟩
  · have h1 : (-i).toNat = 0 := by omega
    have h2 : (i + 1074).toNat = i.toNat + 1074 := by omega
    rw [h1, h2, Nat.pow_add, ← Nat.mul_assoc, Nat.mul_div_cancel _ (Nat.pow_pos (by decide)), Nat.mul_mod_left, Nat.shiftLeft_eq, Nat.pow_zero, Nat.div_one, Nat.mod_one]
    simp

/-- made whole downwards -/
theorem fint_down {a : Nat} (ha : fin a) : fin (fint .down a) ∧ fv (fint .down a) = fv a / 2 ^ 1074 * 2 ^ 1074 := by
  obtain ⟨s, m, i, h, hp⟩ := ha
  obtain ⟨q1, q2⟩ := fint_parts .down h
  refine ⟨q1, ?_⟩
  obtain ⟨d1, d2⟩ := parts_div (m := m) hp
  have es : ∀ (s : Bool) (c k : Nat), Ieee.signed s c k = if s = true then -((c * 2 ^ k : Nat) : Int) else ((c * 2 ^ k : Nat) : Int) := by
    intro s c k
    unfold Ieee.signed
    rw [Nat.shiftLeft_eq]
  rw [q2, fv_of h, cut_eq, es, es]
  unfold oneMore
  generalize hN : m * 2 ^ (i + 1074).toNat = N at *
  generalize hg : (2 : Nat) ^ 1074 = g at *
  have hgpos : 0 < g := by rw [← hg]; exact Nat.pow_pos (by decide)
  have hcast : (2 : Int) ^ 1074 = (g : Int) := by rw [← hg]; simp
  rw [hcast, ← d1]
  have hz : (m <<< i.toNat % 2 ^ (-i).toNat != 0) = (N % g != 0) := by
    rw [d2]
    have : 0 < 2 ^ (1074 - (-i).toNat) := Nat.pow_pos (by decide)
    by_cases h0 : m <<< i.toNat % 2 ^ (-i).toNat = 0
    · rw [h0, Nat.zero_mul]
    · have h1 : (m <<< i.toNat % 2 ^ (-i).toNat) * 2 ^ (1074 - (-i).toNat) ≠ 0 := Nat.mul_ne_zero h0 (by omega)
      rw [bne_iff_ne.2 h0, bne_iff_ne.2 h1]
  simp only [hz]
  have hdiv : N / g * g + N % g = N := Nat.div_add_mod' N g
  have hlt : N % g < g := Nat.mod_lt _ hgpos
  have hmul : (g : Int) * ((N / g : Nat) : Int) = ((N / g * g : Nat) : Int) := by rw [Int.natCast_mul, Int.mul_comm]
  cases s with
  | false => simp
  | true =>
    simp only [Bool.true_and, if_true]
    by_cases h0 : N % g = 0
    · have key : (-(N : Int)) / (g : Int) = -((N / g : Nat) : Int) := by
        refine ((Int.ediv_emod_unique (r := 0) (by omega)).2 ⟨?_, by omega, by omega⟩).1
        rw [Int.mul_neg, hmul]
        omega
      simp only [h0, bne_self_eq_false, Bool.toNat_false, Nat.add_zero]
      rw [key, Int.neg_mul, Int.natCast_mul]
    · have hb : (N % g != 0) = true := by simp [h0]
      have key : (-(N : Int)) / (g : Int) = -((N / g + 1 : Nat) : Int) := by
        refine ((Int.ediv_emod_unique (r := (g : Int) - (N % g : Nat)) (by omega)).2 ⟨?_, by omega, by omega⟩).1
        rw [Int.mul_neg, Int.natCast_add, Int.mul_add, hmul]
        omega
      rw [hb, key, Int.neg_mul, Int.natCast_mul]
      rfl
end Go.Proofs.Ytnccnmeecngopaa.Fw
