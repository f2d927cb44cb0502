/- The document's Plan: the search for a power of two; the places. -/
import Derived.Test.YtnccnmeecngopaaLwQnA
import Derived.Test.YtnccnmeecngopaaLwQlB
set_option maxRecDepth 100000
set_option maxHeartbeats 4000000
set_option linter.unusedSimpArgs false
set_option linter.unusedVariables false
namespace Go.Proofs.Ytnccnmeecngopaa.Fw
open Go Go.RowKit
def twoAt (pair : Int) : Nat → Int
  | 0 => 0
  | i + 1 => if pair = 2 ^ (i + 1) then 2 ^ (i + 1) else twoAt pair i
section
variable {L n : Nat} {rate fore pair points blocks g : Int} {els : List (List AV)}
theorem pow_small {i : Nat} (h : i ≤ 9) : (2 : Int) ^ i ≤ 512 ∧ 1 ≤ (2 : Int) ^ i := by
  match i, h with
  | 0, _ => decide
  | 1, _ => decide
  | 2, _ => decide
  | 3, _ => decide
  | 4, _ => decide
  | 5, _ => decide
  | 6, _ => decide
  | 7, _ => decide
  | 8, _ => decide
  | 9, _ => decide
theorem pow_256 {i : Nat} (h : i < 8) : (2 : Int) ^ (i + 1) ≤ 256 := by
  match i, h with
  | 0, _ => decide
  | 1, _ => decide
  | 2, _ => decide
  | 3, _ => decide
  | 4, _ => decide
  | 5, _ => decide
  | 6, _ => decide
  | 7, _ => decide
theorem two_round {i : Nat} {π : List Nat} (h : i < 8) :
    rnd 0 [2, 3, 4, 5, 10, 12, 14, 15] (bodyOf ⟨fnOf, specP, L⟩ (runF ⟨fnOf, specP, L⟩ n) 0 m27b1 (i :: π) (qkSt rate fore els pair points blocks g (twoAt pair i) (2 ^ (i + 1)))) = some (.nrm, qkSt rate fore els pair points blocks g (twoAt pair (i + 1)) (2 ^ (i + 1 + 1))) := by
  have hle := pow_256 h
  have hs := pow_small (i := i + 1) (by omega)
  have hw : IntKind.wrap .i64 (2 * 2 ^ (i + 1)) = 2 ^ (i + 1 + 1) := by
    rw [wrap_id (by omega), Int.pow_succ (2 : Int) (i + 1), Int.mul_comm]
  by_cases hp : pair = 2 ^ (i + 1)
  · have := @qk_0 L n rate fore pair points blocks g (twoAt pair i) (2 ^ (i + 1)) els i π (dT hle) (beq_iff_eq.2 hp)
    rw [hw] at this
    have e : twoAt pair (i + 1) = 2 ^ (i + 1) := if_pos hp
    rw [e]
    exact this
  · have := @qk_1 L n rate fore pair points blocks g (twoAt pair i) (2 ^ (i + 1)) els i π (dT hle) (beq_eq_false_iff_ne.2 hp)
    rw [hw] at this
    have e : twoAt pair (i + 1) = twoAt pair i := if_neg hp
    rw [e]
    exact this
theorem two_loop {π : List Nat} (hL : 8 ≤ L) : Con.holds ⟨fnOf, specP, L+1⟩ (runF ⟨fnOf, specP, L+1⟩ n) (.loop 0 [2, 3, 4, 5, 10, 12, 14, 15] m27b1 π (qkSt rate fore els pair points blocks g 0 2) (.exit 0)
    ⟨[(30, .v (.bool false)), (29, .int .i64 512)] ++ (qkSt rate fore els pair points blocks g (twoAt pair 8) 512).env, qkH rate fore els, 2⟩) :=
  loop0 (fun i => qkSt rate fore els pair points blocks g (twoAt pair i) (2 ^ (i + 1))) 8 rfl hL (fun i hi => two_round hi) (@qk_2 (L+1) n rate fore pair points blocks g (twoAt pair 8) 512 els 8 π (dF (by decide))) (by simp)
end
/-- a power of two from 2 to 256, asked in two ways -/
theorem two_same (pair : Int) : (2 ≤ pair ∧ pair ≤ 256 ∧ (IntKind.wrap .i64 ((BitVec.ofInt 64 pair &&& BitVec.ofInt 64 (IntKind.wrap .i64 (pair - 1))).toNat : Int) != 0) = false) ↔ twoAt pair 8 ≠ 0 := by
  by_cases h : 2 ≤ pair ∧ pair ≤ 256
  · have key : ∀ p : Fin 257, 2 ≤ p.val → ((IntKind.wrap .i64 ((BitVec.ofInt 64 (p.val : Int) &&& BitVec.ofInt 64 (IntKind.wrap .i64 ((p.val : Int) - 1))).toNat : Int) != 0) = false ↔ twoAt (p.val : Int) 8 ≠ 0) := by decide +kernel
    have := key ⟨pair.toNat, by omega⟩ (by show 2 ≤ pair.toNat; omega)
    have e : ((⟨pair.toNat, by omega⟩ : Fin 257).val : Int) = pair := by show (pair.toNat : Int) = pair; omega
    rw [e] at this
    exact ⟨fun ⟨_, _, h3⟩ => this.1 h3, fun h3 => ⟨h.1, h.2, this.2 h3⟩⟩
  · constructor
    · rintro ⟨a, b, _⟩; exact absurd ⟨a, b⟩ h
    · intro h2
      exfalso
      apply h2
      have ne : ∀ i, i < 8 → pair ≠ 2 ^ (i + 1) := fun i hi e => by
        have h1 := pow_256 hi
        have : (2 : Int) ≤ 2 ^ (i + 1) := by
          rw [Int.pow_succ]
          have := (pow_small (i := i) (by omega)).2
          omega
        exact h ⟨by omega, by omega⟩
      simp only [twoAt, if_neg (ne 0 (by decide)), if_neg (ne 1 (by decide)), if_neg (ne 2 (by decide)), if_neg (ne 3 (by decide)), if_neg (ne 4 (by decide)), if_neg (ne 5 (by decide)), if_neg (ne 6 (by decide)), if_neg (ne 7 (by decide))]
end Go.Proofs.Ytnccnmeecngopaa.Fw
