/- train: Raw, the program's and the document's: the same numbers. -/
import Derived.Test.YthcgeajojgecnaaLwRwD
set_option maxRecDepth 100000
set_option maxHeartbeats 4000000
set_option exponentiation.threshold 4000
set_option linter.unusedSimpArgs false
set_option linter.unusedVariables false
namespace Go.Proofs.Ythcgeajojgecnaa.Fw
open Go Go.RowKit
theorem sumS_far {pt : (Nat × Nat) × Bool → Int} {ss : List ((Nat × Nat) × Bool)} {sg : List Int} {att r : Nat} (h : ss.length ≤ att) : ∀ i, sumS pt ss sg att r i = 0 ∧ okS ss att r i = true
  | 0 => ⟨rfl, rfl⟩
  | i + 1 => by
    obtain ⟨a, b⟩ := sumS_far (pt := pt) (sg := sg) (r := r) h i
    rw [sumS, okS, if_neg (by omega), if_neg (by omega), a, b]
    exact ⟨rfl, rfl⟩
section
variable (ss : List ((Nat × Nat) × Bool)) (us vs : List Int) (R h N : Nat)
def totS (pt : (Nat × Nat) × Bool → Int) (A j : Nat) : Int := sumS pt ss us (A + j * R) R N + sumS pt ss vs (A + h + j * R) R N
def okJ (A j : Nat) : Bool := okS ss (A + j * R) R N && okS ss (A + h + j * R) R N
end
theorem far_same {ss : List ((Nat × Nat) × Bool)} {us vs : List Int} {R h N a : Nat} {pt : (Nat × Nat) × Bool → Int} (hl : ss.length ≤ 65536) (j : Nat) : totS ss us vs R h N pt (min a ss.length) j = totS ss us vs R h N pt (min a 65536) j ∧ okJ ss R h N (min a ss.length) j = okJ ss R h N (min a 65536) j := by
  by_cases c : a < ss.length
  · rw [Nat.min_eq_left (by omega), Nat.min_eq_left (by omega)]; exact ⟨rfl, rfl⟩
  · unfold totS okJ
    obtain ⟨a1, b1⟩ := sumS_far (pt := pt) (ss := ss) (sg := us) (att := min a ss.length + j * R) (r := R) (by omega) N
    obtain ⟨a2, b2⟩ := sumS_far (pt := pt) (ss := ss) (sg := vs) (att := min a ss.length + h + j * R) (r := R) (by omega) N
    obtain ⟨a3, b3⟩ := sumS_far (pt := pt) (ss := ss) (sg := us) (att := min a 65536 + j * R) (r := R) (by omega) N
    obtain ⟨a4, b4⟩ := sumS_far (pt := pt) (ss := ss) (sg := vs) (att := min a 65536 + h + j * R) (r := R) (by omega) N
    rw [a1, a2, a3, a4, b1, b2, b3, b4]
    exact ⟨rfl, rfl⟩
/-- the divisors -/
theorem by_read {k : Nat} (h1 : 1 ≤ k) (h8 : k ≤ 8) : Ieee.double.read (fofInt (2 * ((2 ^ k : Nat) : Int) * 128)) = .number false (2 ^ 52) (((k + 8 : Nat) : Int) - 52) ∧ Ieee.double.read (fmul (fofInt (2 * ((2 ^ k : Nat) : Int) * 128)) 4661225614328463360) = .number false (2 ^ 52) (((k + 20 : Nat) : Int) - 52) := by
  have : k = 1 ∨ k = 2 ∨ k = 3 ∨ k = 4 ∨ k = 5 ∨ k = 6 ∨ k = 7 ∨ k = 8 := by omega
  rcases this with rfl | rfl | rfl | rfl | rfl | rfl | rfl | rfl <;> exact ⟨by kernel_rfl, by kernel_rfl⟩
/-- a raw tap's part -/
def rawV (T : Int) (k x : Nat) : Prop := fin x ∧ fv x = T * 2 ^ (1054 - k)
theorem raw_prog {T : Int} {k x : Nat} (h1 : 1 ≤ k) (h8 : k ≤ 8) (hx : grid T x) (hT : T.natAbs < 2 ^ 53) : rawV T k (fdiv x (fofInt (2 * ((2 ^ k : Nat) : Int) * 128))) := by
  refine fdiv_pow2 (k := k + 8) hx.1 (grid_stout hx) (by_read h1 h8).1 (by omega) ?_ (fits_grid hT (by omega))
  rw [hx.2, Int.mul_assoc, ← Int.pow_add, show 1054 - k + (k + 8) = 1062 by omega]
theorem raw_doc {T : Int} {k : Nat} (h1 : 1 ≤ k) (h8 : k ≤ 8) (hT : T.natAbs < 2 ^ 53) : rawV T k (fdiv (fofInt T) (fmul (fofInt (2 * ((2 ^ k : Nat) : Int) * 128)) 4661225614328463360)) := by
  obtain ⟨f1, f2⟩ := fofInt_exact hT
  have hst : stout (fofInt T) := by
    unfold stout
    by_cases h0 : T = 0
    · left; rw [f2, h0, Int.zero_mul]
    · right
      rw [f2, Int.natAbs_mul, Int.natAbs_pow]
      calc 2 ^ 600 ≤ 1 * 2 ^ 1074 := by rw [Nat.one_mul]; exact Nat.pow_le_pow_right (by decide) (by decide)
        _ ≤ T.natAbs * 2 ^ 1074 := Nat.mul_le_mul_right _ (by omega)
  refine fdiv_pow2 (k := k + 20) f1 hst (by_read h1 h8).2 (by omega) ?_ (fits_grid hT (by omega))
  rw [f2, Int.mul_assoc, ← Int.pow_add, show 1054 - k + (k + 20) = 1074 by omega]
/-- a list of raw taps: what the parts stand for -/
def rawL (T U : Nat → Int) (k : Nat) (zs : List (Nat × Nat)) : Prop := ∀ j, j < zs.length → rawV (T j) k (zs.getD j (0, 0)).1 ∧ rawV (U j) k (zs.getD j (0, 0)).2
theorem rawL_up {T U : Nat → Int} {k : Nat} {zs : List (Nat × Nat)} {z : Nat × Nat} (h : rawL T U k zs) (h1 : rawV (T zs.length) k z.1) (h2 : rawV (U zs.length) k z.2) : rawL T U k (zs ++ [z]) := by
  intro j hj
  rw [List.length_append, List.length_singleton] at hj
  rw [getD_apps]
  by_cases c : j < zs.length
  · rw [if_pos c]; exact h j c
  · obtain rfl : j = zs.length := by omega
    rw [if_neg c, Nat.sub_self]
    exact ⟨h1, h2⟩
section
variable {L n : Nat} {ss : List ((Nat × Nat) × Bool)} {k R G A : Nat}
theorem sgn_one (k : Nat) : (∀ i, i < (prs k).1.length → (prs k).1.getD i 0 = 1 ∨ (prs k).1.getD i 0 = -1) ∧ (∀ i, i < (prs k).2.length → (prs k).2.getD i 0 = 1 ∨ (prs k).2.getD i 0 = -1) := by
  obtain ⟨a, b⟩ := prs_one k
  exact ⟨fun i hi => a _ (getD_mem1 hi), fun i hi => b _ (getD_mem1 hi)⟩
theorem may_nat (hk1 : 1 ≤ k) (hk : k ≤ 8) (hR : 1 ≤ R) (hR8 : R ≤ 8) (hG : G ≤ 4096) : mayB (k : Int) (R : Int) (G : Int) = true := decide_eq_true (by omega)
theorem tot_bound {pt : (Nat × Nat) × Bool → Int} (hp : ∀ i, i < ss.length → (pt (ss.getD i ((0, 0), false))).natAbs ≤ 2 ^ 22) (hk : k ≤ 8) (h j : Nat) : (totS ss (prs k).1 (prs k).2 R h (2 ^ k) pt A j).natAbs ≤ 2 ^ 31 := by
  obtain ⟨l1, l2⟩ := prs_len k
  obtain ⟨s1, s2⟩ := sgn_one k
  have hp2 : 2 ^ k ≤ 256 := Nat.le_trans (Nat.pow_le_pow_right (by decide) hk) (by decide)
  have a := sumS_bound hp s1 (att := A + j * R) (r := R) (i := 2 ^ k) (by rw [l1]; exact Nat.le_refl _)
  have b := sumS_bound hp s2 (att := A + h + j * R) (r := R) (i := 2 ^ k) (by rw [l2]; exact Nat.le_refl _)
  unfold totS
  generalize 2 ^ k = w at *
  omega
/-- what both ask in a round: the halves' sums -/
theorem round_calls (hm : ∀ i, i < ss.length → mayF (ss.getD i ((0, 0), false)) = true) (hl : ss.length ≤ 65536) (hk1 : 1 ≤ k) (hk : k ≤ 8) (hR : 1 ≤ R) (hR8 : R ≤ 8) (hG : G ≤ 4096) (hA : A ≤ 65536) (hL : 4096 ≤ L) {j : Nat} (hj : j < 64) :
    IntKind.wrap .i64 ((A : Int) + IntKind.wrap .i64 ((j : Int) * (R : Int))) = ((A + j * R : Nat) : Int) ∧
    IntKind.wrap .i64 (IntKind.wrap .i64 ((A : Int) + ((R : Int) * 2 ^ k + (G : Int))) + IntKind.wrap .i64 ((j : Int) * (R : Int))) = ((A + (R * 2 ^ k + G) + j * R : Nat) : Int) := by
  have hp : 2 ^ k ≤ 256 := Nat.le_trans (Nat.pow_le_pow_right (by decide) hk) (by decide)
  have hmax : R * 2 ^ k ≤ 8 * 256 := Nat.mul_le_mul hR8 hp
  have hj8 : j * R ≤ 64 * 8 := Nat.mul_le_mul (by omega) hR8
  have ec : ((R : Int) * 2 ^ k + (G : Int)) = ((R * 2 ^ k + G : Nat) : Int) := by rw [Int.natCast_add, Int.natCast_mul, Int.natCast_pow]; rfl
  rw [ec, ← Int.natCast_mul]
  generalize R * 2 ^ k = w at *
  generalize j * R = v at *
  rw [wrap_id (n := ((v : Nat) : Int)) (by omega), wrap_id (n := (A : Int) + ((w + G : Nat) : Int)) (by omega), wrap_id (by omega), wrap_id (by omega)]
  exact ⟨by omega, by omega⟩
end
end Go.Proofs.Ythcgeajojgecnaa.Fw
