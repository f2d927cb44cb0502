/- The nine pairs of signs: both programs' ways give them; spoken for. -/
import Derived.Test.YthcgeajojgecnaaFwY
import Derived.Test.YthcgeajojgecnaaFwAbs
import Derived.Test.YthcgeajojgecnaaFwW
import Derived.Test.YthcgeajojgecnaaFwGr
import Derived.Test.YthcgeajojgecnaaLwAd
import Derived.KernelRfl
set_option maxRecDepth 100000
set_option maxHeartbeats 4000000
set_option linter.unusedSimpArgs false
set_option linter.unusedVariables false
namespace Go.Proofs.Ythcgeajojgecnaa.Fw
open Go Go.RowKit
def celJ (x : Int) : List AV := [.int .i8 x]
/-- the pair of an order -/
def prs : Nat → List Int × List Int
  | 0 => ([1], [1])
  | k + 1 => ((prs k).1 ++ (prs k).2, (prs k).1 ++ (prs k).2.map (fun x => -x))
theorem prs_len : ∀ k, (prs k).1.length = 2 ^ k ∧ (prs k).2.length = 2 ^ k
  | 0 => ⟨rfl, rfl⟩
  | k + 1 => by
    obtain ⟨a, b⟩ := prs_len k
    simp only [prs, List.length_append, List.length_map, a, b, Nat.pow_succ]
    omega
theorem prs_one : ∀ k, (∀ x ∈ (prs k).1, x = 1 ∨ x = -1) ∧ (∀ x ∈ (prs k).2, x = 1 ∨ x = -1)
  | 0 => ⟨by simp [prs], by simp [prs]⟩
  | k + 1 => by
    obtain ⟨a, b⟩ := prs_one k
    simp only [prs, List.mem_append, List.mem_map]
    refine ⟨fun x h => h.elim (a x) (b x), fun x h => h.elim (a x) ?_⟩
    rintro ⟨y, hy, rfl⟩
    rcases b y hy with h | h <;> omega
def prA (k : Nat) : AV := .tup [.own 1 ((prs k).1.map celJ) true, .own 1 ((prs k).2.map celJ) true]
def prE (k : Nat) : AV := .tup [.own 1 ((prs k).1.map celJ) true, .own 1 ((prs k).2.map celJ) true, .int .i64 0]
theorem pair0 : den ⟨fnOf, specAbs, 600⟩ 12 68 [.int .i64 0] = some (prA 0) := by kernel_rfl
theorem pair1 : den ⟨fnOf, specAbs, 600⟩ 12 68 [.int .i64 1] = some (prA 1) := by kernel_rfl
theorem pair2 : den ⟨fnOf, specAbs, 600⟩ 12 68 [.int .i64 2] = some (prA 2) := by kernel_rfl
theorem pair3 : den ⟨fnOf, specAbs, 600⟩ 12 68 [.int .i64 3] = some (prA 3) := by kernel_rfl
theorem pair4 : den ⟨fnOf, specAbs, 600⟩ 12 68 [.int .i64 4] = some (prA 4) := by kernel_rfl
theorem pair5 : den ⟨fnOf, specAbs, 600⟩ 12 68 [.int .i64 5] = some (prA 5) := by kernel_rfl
theorem pair6 : den ⟨fnOf, specAbs, 600⟩ 12 68 [.int .i64 6] = some (prA 6) := by kernel_rfl
theorem pair7 : den ⟨fnOf, specAbs, 600⟩ 12 68 [.int .i64 7] = some (prA 7) := by kernel_rfl
theorem pair8 : den ⟨fnOf, specAbs, 600⟩ 12 68 [.int .i64 8] = some (prA 8) := by kernel_rfl
theorem Pair0 : den ⟨fnOf, specAbs, 600⟩ 14 16 [.int .i64 0] = some (prE 0) := by kernel_rfl
theorem Pair1 : den ⟨fnOf, specAbs, 600⟩ 14 16 [.int .i64 1] = some (prE 1) := by kernel_rfl
theorem Pair2 : den ⟨fnOf, specAbs, 600⟩ 14 16 [.int .i64 2] = some (prE 2) := by kernel_rfl
theorem Pair3 : den ⟨fnOf, specAbs, 600⟩ 14 16 [.int .i64 3] = some (prE 3) := by kernel_rfl
theorem Pair4 : den ⟨fnOf, specAbs, 600⟩ 14 16 [.int .i64 4] = some (prE 4) := by kernel_rfl
theorem Pair5 : den ⟨fnOf, specAbs, 600⟩ 14 16 [.int .i64 5] = some (prE 5) := by kernel_rfl
theorem Pair6 : den ⟨fnOf, specAbs, 600⟩ 14 16 [.int .i64 6] = some (prE 6) := by kernel_rfl
theorem Pair7 : den ⟨fnOf, specAbs, 600⟩ 14 16 [.int .i64 7] = some (prE 7) := by kernel_rfl
theorem Pair8 : den ⟨fnOf, specAbs, 600⟩ 14 16 [.int .i64 8] = some (prE 8) := by kernel_rfl
theorem rPair0 : den ⟨fnOf, specAbs, 600⟩ 14 24 [.int .i64 0] = some (prE 0) := by kernel_rfl
theorem rPair1 : den ⟨fnOf, specAbs, 600⟩ 14 24 [.int .i64 1] = some (prE 1) := by kernel_rfl
theorem rPair2 : den ⟨fnOf, specAbs, 600⟩ 14 24 [.int .i64 2] = some (prE 2) := by kernel_rfl
theorem rPair3 : den ⟨fnOf, specAbs, 600⟩ 14 24 [.int .i64 3] = some (prE 3) := by kernel_rfl
theorem rPair4 : den ⟨fnOf, specAbs, 600⟩ 14 24 [.int .i64 4] = some (prE 4) := by kernel_rfl
theorem rPair5 : den ⟨fnOf, specAbs, 600⟩ 14 24 [.int .i64 5] = some (prE 5) := by kernel_rfl
theorem rPair6 : den ⟨fnOf, specAbs, 600⟩ 14 24 [.int .i64 6] = some (prE 6) := by kernel_rfl
theorem rPair7 : den ⟨fnOf, specAbs, 600⟩ 14 24 [.int .i64 7] = some (prE 7) := by kernel_rfl
theorem rPair8 : den ⟨fnOf, specAbs, 600⟩ 14 24 [.int .i64 8] = some (prE 8) := by kernel_rfl
theorem nine {P : Nat → Prop} (h0 : P 0) (h1 : P 1) (h2 : P 2) (h3 : P 3) (h4 : P 4) (h5 : P 5) (h6 : P 6) (h7 : P 7) (h8 : P 8) {k : Nat} (h : k ≤ 8) : P k := by
  match k, h with
  | 0, _ => exact h0
  | 1, _ => exact h1
  | 2, _ => exact h2
  | 3, _ => exact h3
  | 4, _ => exact h4
  | 5, _ => exact h5
  | 6, _ => exact h6
  | 7, _ => exact h7
  | 8, _ => exact h8
theorem pair_den {k : Nat} (h : k ≤ 8) : den ⟨fnOf, specAbs, 600⟩ 12 68 [.int .i64 k] = some (prA k) :=
  nine (P := fun k => den ⟨fnOf, specAbs, 600⟩ 12 68 [.int .i64 (k : Nat)] = some (prA k)) pair0 pair1 pair2 pair3 pair4 pair5 pair6 pair7 pair8 h
theorem Pair_den {k : Nat} (h : k ≤ 8) : den ⟨fnOf, specAbs, 600⟩ 14 16 [.int .i64 k] = some (prE k) :=
  nine (P := fun k => den ⟨fnOf, specAbs, 600⟩ 14 16 [.int .i64 (k : Nat)] = some (prE k)) Pair0 Pair1 Pair2 Pair3 Pair4 Pair5 Pair6 Pair7 Pair8 h
theorem rPair_den {k : Nat} (h : k ≤ 8) : den ⟨fnOf, specAbs, 600⟩ 14 24 [.int .i64 k] = some (prE k) :=
  nine (P := fun k => den ⟨fnOf, specAbs, 600⟩ 14 24 [.int .i64 (k : Nat)] = some (prE k)) rPair0 rPair1 rPair2 rPair3 rPair4 rPair5 rPair6 rPair7 rPair8 h
def pairSem : List AV → Option AV
  | [.v (.int .i64 k)] => if 0 ≤ k ∧ k ≤ 8 then some (prA k.toNat) else none
  | _ => none
def PairSem : List AV → Option AV
  | [.v (.int .i64 k)] => if 0 ≤ k ∧ k ≤ 8 then some (prE k.toNat) else none
  | _ => none
theorem pairSem_is {avs : List AV} {r : AV} (h : pairSem avs = some r) : ∃ k : Nat, k ≤ 8 ∧ avs = [.int .i64 k] ∧ r = prA k := by
  unfold pairSem at h
  split at h
  · rename_i k
    split at h
    · cases h; exact ⟨k.toNat, by omega, by rw [Int.toNat_of_nonneg (by omega)], rfl⟩
    · cases h
  · cases h
theorem PairSem_is {avs : List AV} {r : AV} (h : PairSem avs = some r) : ∃ k : Nat, k ≤ 8 ∧ avs = [.int .i64 k] ∧ r = prE k := by
  unfold PairSem at h
  split at h
  · rename_i k
    split at h
    · cases h; exact ⟨k.toNat, by omega, by rw [Int.toNat_of_nonneg (by omega)], rfl⟩
    · cases h
  · cases h
theorem pairSem_at {k : Nat} (h : k ≤ 8) : pairSem [.int .i64 k] = some (prA k) := by
  simp only [pairSem]; rw [if_pos (by omega), Int.toNat_natCast]
theorem PairSem_at {k : Nat} (h : k ≤ 8) : PairSem [.int .i64 k] = some (prE k) := by
  simp only [PairSem]; rw [if_pos (by omega), Int.toNat_natCast]
def newR : FuncId → Option (List AV → Option AV)
  | 68 => some pairSem
  | 16 => some PairSem
  | 24 => some PairSem
  | _ => none
def specR : FuncId → Option (List AV → Option AV) := fun f => match newR f with | some g => some g | none => specAbs f
theorem toldR {P : Prog} {f : FuncId} {avs : List AV} {r : AV} {L k : Nat} (h : den ⟨P.fn, P.spec, L⟩ k f avs = some r) : ∃ avs1 L k r1, All2 WiA avs avs1 ∧ den ⟨P.fn, P.spec, L⟩ k f avs1 = some r1 ∧ WkT r1 r :=
  ⟨avs, L, k, r, all2_refl WiA.refl _, h, WkT.refl _⟩
theorem spec_r : SpecOk Try.prog ⟨fnOf, specR, 0⟩ :=
  spec_addz (spec_abs 0 fnOf) (fun L => fnsOk _ _) follows newR fun f g h => by
    unfold newR at h
    split at h
    · cases h
      refine ⟨⟨_, Try.func68, ne_of_beq_false (by kernel_rfl), by kernel_rfl⟩, fun avs r h => ?_⟩
      obtain ⟨k, hk, rfl, rfl⟩ := pairSem_is h
      exact toldR (P := ⟨fnOf, specAbs, 0⟩) (pair_den hk)
    · cases h
      refine ⟨⟨_, Try.func16, ne_of_beq_false (by kernel_rfl), by kernel_rfl⟩, fun avs r h => ?_⟩
      obtain ⟨k, hk, rfl, rfl⟩ := PairSem_is h
      exact toldR (P := ⟨fnOf, specAbs, 0⟩) (Pair_den hk)
    · cases h
      refine ⟨⟨_, Try.func24, ne_of_beq_false (by kernel_rfl), by kernel_rfl⟩, fun avs r h => ?_⟩
      obtain ⟨k, hk, rfl, rfl⟩ := PairSem_is h
      exact toldR (P := ⟨fnOf, specAbs, 0⟩) (rPair_den hk)
    · cases h
end Go.Proofs.Ythcgeajojgecnaa.Fw
