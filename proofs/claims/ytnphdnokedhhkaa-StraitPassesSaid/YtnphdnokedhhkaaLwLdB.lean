/- math.Ldexp: the bits, and what comes of them. -/
import Derived.Test.YtnphdnokedhhkaaLwLdA
import Derived.Test.YtnphdnokedhhkaaFwGr
set_option maxRecDepth 100000
set_option maxHeartbeats 4000000
set_option exponentiation.threshold 4000
set_option linter.unusedSimpArgs false
set_option linter.unusedVariables false
namespace Go.Proofs.Ytnphdnokedhhkaa.Fw
open Go Go.RowKit
theorem wrapU {n : Int} (h0 : 0 ≤ n) (h1 : n < 18446744073709551616) : IntKind.wrap .u64 n = n := by
  simp [IntKind.wrap, IntKind.signed, IntKind.bits]; omega
theorem wrap_mod (z : Int) : IntKind.wrap .i64 z % 18446744073709551616 = z % 18446744073709551616 := by
  simp [IntKind.wrap, IntKind.signed, IntKind.bits]; split <;> omega
theorem fdiv52 (b : Nat) : (b : Int).fdiv (2 ^ 52) = ((b / 2 ^ 52 : Nat) : Int) := by
  rw [Int.fdiv_eq_ediv_of_nonneg _ (by decide)]; rfl
theorem exp_bits (b : Nat) : ((BitVec.ofInt 64 (IntKind.wrap .i64 ((b : Int).fdiv (2 ^ 52))) &&& BitVec.ofInt 64 (2047)).toNat : Int) = ((b / 2 ^ 52 % 2048 : Nat) : Int) := by
  have e2 : BitVec.ofInt 64 2047 = BitVec.ofNat 64 (2 ^ 11 - 1) := by decide
  rw [e2, BitVec.toNat_and, BitVec.toNat_ofNat, BitVec.toNat_ofInt, show (2 ^ 11 - 1) % 2 ^ 64 = 2 ^ 11 - 1 by decide, Nat.and_two_pow_sub_one_eq_mod, fdiv52]
  have h := wrap_mod ((b / 2 ^ 52 : Nat) : Int)
  have e : ((2 ^ 64 : Nat) : Int) = 18446744073709551616 := by decide
  rw [e, h]
  omega
theorem and_top (x : Nat) : x &&& 2 ^ 63 = 2 ^ 63 * (x / 2 ^ 63 % 2) := by
  have h1 : (x &&& 2 ^ 63) / 2 ^ 63 = x / 2 ^ 63 % 2 := by rw [Nat.and_div_two_pow, Nat.div_self (by decide), Nat.and_one_is_mod]
  have h2 : (x &&& 2 ^ 63) % 2 ^ 63 = 0 := by rw [Nat.and_mod_two_pow, Nat.mod_self, Nat.and_zero]
  have h3 := Nat.div_add_mod (x &&& 2 ^ 63) (2 ^ 63)
  rw [h1, h2, Nat.add_zero] at h3
  exact h3.symm
theorem and_bits (b : Nat) : ((BitVec.ofInt 64 (b : Int) &&& ~~~BitVec.ofInt 64 (9218868437227405312)).toNat : Int) = ((2 ^ 63 * (b / 2 ^ 63 % 2) + b % 2 ^ 52 : Nat) : Int) := by
  have e1 : BitVec.ofInt 64 (b : Int) = BitVec.ofNat 64 b := by simp
  have e2 : ~~~(BitVec.ofInt 64 9218868437227405312) = BitVec.ofNat 64 (2 ^ 63 + (2 ^ 52 - 1)) := by decide
  rw [e1, e2, BitVec.toNat_and, BitVec.toNat_ofNat, BitVec.toNat_ofNat, show (2 ^ 63 + (2 ^ 52 - 1)) % 2 ^ 64 = 2 ^ 63 ||| (2 ^ 52 - 1) by decide, Nat.and_or_distrib_left, Nat.and_two_pow_sub_one_eq_mod, and_top]
  have h1 : b % 2 ^ 64 % 2 ^ 52 = b % 2 ^ 52 := by omega
  have h2 : b % 2 ^ 64 / 2 ^ 63 % 2 = b / 2 ^ 63 % 2 := by omega
  rw [h1, h2, ← Nat.two_pow_add_eq_or_of_lt (by omega)]
theorem or_bits {s F E : Nat} (hs : s < 2) (hF : F < 2 ^ 52) (hE : E < 2048) : ((BitVec.ofInt 64 ((2 ^ 63 * s + F : Nat) : Int) ||| BitVec.ofInt 64 ((E * 2 ^ 52 : Nat) : Int)).toNat : Int) = ((2 ^ 63 * s + (2 ^ 52 * E + F) : Nat) : Int) := by
  have e1 : ∀ b : Nat, BitVec.ofInt 64 (b : Int) = BitVec.ofNat 64 b := fun b => by simp
  rw [e1, e1, BitVec.toNat_or, BitVec.toNat_ofNat, BitVec.toNat_ofNat, Nat.mod_eq_of_lt (by omega), Nat.mod_eq_of_lt (by omega), Nat.two_pow_add_eq_or_of_lt (by omega), Nat.or_assoc, Nat.or_comm F, Nat.mul_comm E, ← Nat.two_pow_add_eq_or_of_lt hF, ← Nat.two_pow_add_eq_or_of_lt (by omega)]
/-- a word's parts read back -/
theorem read_parts {s E F : Nat} (hs : s < 2) (hF : F < 2 ^ 52) (h1 : 1 ≤ E) (h2 : E ≤ 2046) : Ieee.double.read (2 ^ 63 * s + (2 ^ 52 * E + F)) = .number (s == 1) (2 ^ 52 + F) (-1075 + (E : Int)) := by
  have h := read_norm (s == 1) (q := E - 1) (k := 2 ^ 52 + F) (by omega) (by omega) (by omega)
  have e : Ieee.double.word (s == 1) ((E - 1) * 2 ^ 52 + (2 ^ 52 + F)) = 2 ^ 63 * s + (2 ^ 52 * E + F) := by
    have hw : Ieee.double.signWeight = 2 ^ 63 := by decide
    unfold Ieee.Format.word
    have : s = 0 ∨ s = 1 := by omega
    rcases this with rfl | rfl
    · simp; omega
    · simp [hw]; omega
  rw [e] at h
  rw [h]
  congr 1
  omega
theorem read_low64 (y : Nat) : Ieee.double.read y = Ieee.double.read (2 ^ 63 * (y / 2 ^ 63 % 2) + (2 ^ 52 * (y / 2 ^ 52 % 2048) + y % 2 ^ 52)) := by
  have hs : Ieee.double.signWeight = 2 ^ 63 := by decide
  have e1 : (2 ^ 63 * (y / 2 ^ 63 % 2) + (2 ^ 52 * (y / 2 ^ 52 % 2048) + y % 2 ^ 52)) / 2 ^ 63 % 2 = y / 2 ^ 63 % 2 := by omega
  have e2 : (2 ^ 63 * (y / 2 ^ 63 % 2) + (2 ^ 52 * (y / 2 ^ 52 % 2048) + y % 2 ^ 52)) % 2 ^ 63 = y % 2 ^ 63 := by omega
  unfold Ieee.Format.read
  simp only [hs, e1, e2]
/-- a number that is not among the least -/
theorem fin_parts {y : Nat} (hy : fin y) (hb : 2 ^ 52 ≤ (fv y).natAbs) : 1 ≤ y / 2 ^ 52 % 2048 ∧ y / 2 ^ 52 % 2048 ≤ 2046 ∧ fv y = Ieee.signed (y / 2 ^ 63 % 2 == 1) (2 ^ 52 + y % 2 ^ 52) (y / 2 ^ 52 % 2048 - 1) := by
  have hs : Ieee.double.signWeight = 2 ^ 63 := by decide
  have hbn : Ieee.double.binade = 2 ^ 52 := by decide
  have hl : Ieee.double.leastPlace = -1074 := by decide
  have hi : Ieee.double.infRung = 2047 * 2 ^ 52 := by decide
  have h2 : y / 2 ^ 52 % 2048 ≤ 2046 := by
    obtain ⟨s, n, i, hr, _⟩ := hy
    rcases Nat.lt_or_ge 2046 (y / 2 ^ 52 % 2048) with h | h
    · exfalso
      unfold Ieee.Format.read at hr
      simp only [hs, hbn, hi] at hr
      rw [if_neg (by omega), if_neg (by omega)] at hr
      split at hr <;> cases hr
    · exact h
  have h1 : 1 ≤ y / 2 ^ 52 % 2048 := by
    rcases Nat.eq_zero_or_pos (y / 2 ^ 52 % 2048) with h | h
    · exfalso
      have hr : Ieee.double.read y = .number (y / 2 ^ 63 % 2 == 1) (y % 2 ^ 52) (-1074) := by
        unfold Ieee.Format.read
        simp only [hs, hbn, hl]
        rw [if_pos (by omega)]
        congr 1
        · omega
      rw [fv_of hr, signed_abs, show ((-1074 : Int) + 1074).toNat = 0 by rfl] at hb
      have := Nat.mod_lt y (show 0 < 2 ^ 52 by decide)
      omega
    · exact h
  refine ⟨h1, h2, ?_⟩
  have hr := read_low64 y
  rw [read_parts (by omega) (by omega) h1 h2] at hr
  rw [fv_of hr]
  congr 1
  omega
/-- a power of two times a number, exact where it fits -/
theorem pow2_mul {a b : Nat} {s : Bool} {m M t : Nat} {i j : Int} (ha : Ieee.double.read a = .number false (2 ^ 52) (j - 52)) (hb : Ieee.double.read b = .number s m i) (hm : m = M * 2 ^ t)
    (hp : -1074 ≤ i + j + t) (hf : fits (M * 2 ^ (i + j + t + 1074).toNat)) : fin (fmul a b) ∧ fv (fmul a b) = Ieee.signed s M (i + j + t + 1074).toNat := by
  unfold fmul Ieee.Format.mul
  rw [ha, hb]
  simp only [Ieee.Datum.product, Option.map_some, cOpt, Ieee.Format.write]
  rw [Nat.mul_comm, nearest_shift, hm, nearest_shift, show j - 52 + i + ((52 : Nat) : Int) + (t : Int) = i + j + t by omega, Bool.false_xor]
  exact write_exact s hp hf
end Go.Proofs.Ytnphdnokedhhkaa.Fw
