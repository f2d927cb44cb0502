/- TrainTaught: what a row that came through the taps adds up to. -/
import Derived.Test.YthcgeajojgecnaaLwTtD
set_option maxRecDepth 100000
set_option maxHeartbeats 4000000
set_option exponentiation.threshold 4000
set_option linter.unusedSimpArgs false
set_option linter.unusedVariables false
namespace Go.Proofs.Ythcgeajojgecnaa.Fw
open Go Go.RowKit
/-- a number of the grid, not beyond the edge -/
theorem grid_may {m : Int} {x : Nat} (h : grid m x) (hm : m.natAbs ≤ 2 ^ 22) : onF x = true ∧ stK x = m := by
  obtain ⟨e1, e2, e3, e4⟩ := edge_is
  obtain ⟨hf, hv⟩ := h
  have hb : (fv x).natAbs ≤ 2 ^ 1084 := by
    rw [hv, Int.natAbs_mul, Int.natAbs_pow]
    calc m.natAbs * 2 ^ 1062 ≤ 2 ^ 22 * 2 ^ 1062 := Nat.mul_le_mul_right _ hm
      _ = 2 ^ 1084 := by rw [← Nat.pow_add]
  have hw : wi x = true := by
    unfold wi
    rw [fge_rk, fle_rk, e1, e2, e3, e4, fin_num hf, rk_fin hf]
    have c : (2 : Int) ^ 1084 = ((2 ^ 1084 : Nat) : Int) := by rw [Int.natCast_pow]; rfl
    rw [c]
    generalize 2 ^ 1084 = B at *
    simp only [Bool.not_false, Bool.true_and, Bool.and_eq_true, decide_eq_true_eq]
    omega
  obtain ⟨_, q2, _⟩ := up12_is hw
  have e : fv (up12 x) = m * 2 ^ 1074 := by rw [q2, hv, Int.mul_assoc, ← Int.pow_add]
  constructor
  · unfold onF
    rw [hw, Bool.true_and, (on_iff hw).1]
    refine decide_eq_true ?_
    rw [e]; exact Int.mul_emod_left _ _
  · unfold stK
    rw [e]; exact Int.mul_tdiv_cancel _ (pow_ne 1074)
theorem may_of {s : (Nat × Nat) × Bool} {a b : Int} (h0 : s.2 = false) (h1 : grid a s.1.1) (h2 : grid b s.1.2) (ha : a.natAbs ≤ 2 ^ 22) (hb : b.natAbs ≤ 2 ^ 22) : mayF s = true ∧ ptR s = a ∧ ptI s = b := by
  obtain ⟨x1, x2⟩ := grid_may h1 ha
  obtain ⟨y1, y2⟩ := grid_may h2 hb
  refine ⟨?_, x2, y2⟩
  unfold mayF
  rw [h0, x1, y1]; rfl
theorem thru_abs2 {K J X : Nat → Int} {R n : Nat} (hX : ∀ t, (X t).natAbs ≤ 128) : ∀ M, (thruS K X R M n).natAbs ≤ 128 * sumA K J M ∧ (thruS J X R M n).natAbs ≤ 128 * sumA K J M
  | 0 => ⟨Nat.zero_le _, Nat.zero_le _⟩
  | M + 1 => by
    obtain ⟨a, b⟩ := thru_abs2 (K := K) (J := J) (R := R) (n := n) hX M
    have e : ∀ Q : Nat → Int, (if M * R ≤ n then Q M * X (n - M * R) else 0).natAbs ≤ 128 * (Q M).natAbs := fun Q => by
      split
      · rw [Int.natAbs_mul, Nat.mul_comm]; exact Nat.mul_le_mul_right _ (hX _)
      · exact Nat.zero_le _
    have e1 := e K
    have e2 := e J
    constructor
    · show (sg _ (M + 1)).natAbs ≤ _
      rw [sg, sumA]
      have a' : (sg (fun k => if k * R ≤ n then K k * X (n - k * R) else 0) M).natAbs ≤ 128 * sumA K J M := a
      omega
    · show (sg _ (M + 1)).natAbs ≤ _
      rw [sg, sumA]
      have b' : (sg (fun k => if k * R ≤ n then J k * X (n - k * R) else 0) M).natAbs ≤ 128 * sumA K J M := b
      omega
theorem calm_abs {K J X : Nat → Int} {R M A z t : Nat} (hX : ∀ t, (X t).natAbs ≤ 128) (hA : areT K J M) : (64 * calmS K X R M A z t).natAbs ≤ 2 ^ 21 ∧ (64 * calmS J X R M A z t).natAbs ≤ 2 ^ 21 := by
  obtain ⟨a, b⟩ := thru_abs2 (K := K) (J := J) (R := R) (n := t - A) hX M
  have := hA.2
  unfold calmS
  constructor
  · split
    · omega
    · decide
  · split
    · omega
    · decide
theorem sumS_sg {pt : (Nat × Nat) × Bool → Int} {ss : List ((Nat × Nat) × Bool)} {us : List Int} {att r : Nat} {q : Nat → Int} : ∀ {n : Nat}, (∀ i, i < n → att + i * r < ss.length ∧ pt (ss.getD (att + i * r) ((0, 0), false)) = q i) → sumS pt ss us att r n = sg (fun i => us.getD i 0 * q i) n
  | 0, _ => rfl
  | n + 1, h => by
    obtain ⟨a, b⟩ := h n (by omega)
    rw [sumS, sg, if_pos a, b, sumS_sg fun i hi => h i (by omega)]
theorem okS_clean {ss : List ((Nat × Nat) × Bool)} {att r : Nat} (h : ∀ t, (ss.getD t ((0, 0), false)).2 = false) : ∀ n, okS ss att r n = true
  | 0 => rfl
  | n + 1 => by rw [okS, okS_clean h n, h]; simp
section
variable {K X ν : Nat → Int} {k R G M A B : Nat} {ss : List ((Nat × Nat) × Bool)} {pt : (Nat × Nat) × Bool → Int}
/-- THE SUMS: the tap, and what the disturbance leaves -/
theorem tot_thru (h8 : k ≤ 8) (hM64 : M ≤ 64) (hR : 1 ≤ R) (hM : M * R ≤ G + R)
    (hA : ∀ i, i < 2 ^ k → X (i * R) = 128 * (prs k).1.getD i 0) (hB : ∀ i, i < 2 ^ k → X (R * 2 ^ k + G + i * R) = 128 * (prs k).2.getD i 0) (hZ : ∀ t, 2 ^ k * R ≤ t → t < R * 2 ^ k + G → X t = 0) (hY : ∀ t, R * 2 ^ k + G + 2 ^ k * R ≤ t → X t = 0)
    (hlen : ss.length = A + 2 * (R * 2 ^ k + G)) (hpt : ∀ t, pt (ss.getD t ((0, 0), false)) = 64 * calmS K X R M A (2 * (R * 2 ^ k + G)) t + ν t) (hν : ∀ t, (ν t).natAbs ≤ B) {j : Nat} (hj : j < M) :
    ∃ E, totS ss (prs k).1 (prs k).2 R (R * 2 ^ k + G) (2 ^ k) pt A j = ((2 ^ (14 + k) : Nat) : Int) * K j + E ∧ E.natAbs ≤ 2 * 2 ^ k * B := by
  obtain ⟨l1, l2⟩ := prs_len k
  obtain ⟨s1, s2⟩ := sgn_one k
  have hMR : (M - 1) * R ≤ G := by rw [Nat.sub_mul, Nat.one_mul]; omega
  have hjR : j * R ≤ G := Nat.le_trans (Nat.mul_le_mul_right _ (by omega)) hMR
  have hc : R * 2 ^ k = 2 ^ k * R := Nat.mul_comm _ _
  have hiR : ∀ i, i < 2 ^ k → i * R + R ≤ 2 ^ k * R := fun i hi => by
    have : (i + 1) * R ≤ 2 ^ k * R := Nat.mul_le_mul_right _ (by omega)
    rw [Nat.add_mul, Nat.one_mul] at this
    exact this
  generalize hh : R * 2 ^ k + G = h at *
  have heart := @thru_all R G M h 128 X K k h8 hM64 hR hh.symm hM hA hB hZ hY j hj
  have p1 : ∀ i, i < 2 ^ k → A + j * R + i * R < ss.length ∧ pt (ss.getD (A + j * R + i * R) ((0, 0), false)) = 64 * thruS K X R M (j * R + i * R) + ν (A + j * R + i * R) := fun i hi => by
    have := hiR i hi
    refine ⟨by omega, ?_⟩
    rw [hpt]
    unfold calmS
    rw [if_pos (by omega), show A + j * R + i * R - A = j * R + i * R by omega]
  have p2 : ∀ i, i < 2 ^ k → A + h + j * R + i * R < ss.length ∧ pt (ss.getD (A + h + j * R + i * R) ((0, 0), false)) = 64 * thruS K X R M (h + j * R + i * R) + ν (A + h + j * R + i * R) := fun i hi => by
    have := hiR i hi
    refine ⟨by omega, ?_⟩
    rw [hpt]
    unfold calmS
    rw [if_pos (by omega), show A + h + j * R + i * R - A = h + j * R + i * R by omega]
  unfold totS
  rw [sumS_sg p1, sumS_sg p2]
  have split1 : ∀ (us : List Int) (S N : Nat → Int) (n : Nat), sg (fun i => us.getD i 0 * (64 * S i + N i)) n = 64 * sg (fun i => us.getD i 0 * S i) n + sg (fun i => us.getD i 0 * N i) n := fun us S N n => by
    rw [← sg_mul, ← sg_add]
    exact sg_congr fun i hi => by rw [Int.mul_add, Int.mul_left_comm]
  rw [split1 _ (fun i => thruS K X R M (j * R + i * R)) (fun i => ν (A + j * R + i * R)), split1 _ (fun i => thruS K X R M (h + j * R + i * R)) (fun i => ν (A + h + j * R + i * R))]
  have one : ∀ (us : List Int), us.length = 2 ^ k → (∀ i, i < us.length → us.getD i 0 = 1 ∨ us.getD i 0 = -1) → ∀ f : Nat → Nat, (sg (fun i => us.getD i 0 * ν (f i)) (2 ^ k)).natAbs ≤ 2 ^ k * B := fun us hu hs f => sg_abs fun i hi => by
    rw [Int.natAbs_mul]
    rcases hs i (by omega) with e | e
    · rw [e]; simpa using hν (f i)
    · rw [e]; simpa using hν (f i)
  have b1 := one _ l1 s1 (fun i => A + j * R + i * R)
  have b2 := one _ l2 s2 (fun i => A + h + j * R + i * R)
  refine ⟨sg (fun i => (prs k).1.getD i 0 * ν (A + j * R + i * R)) (2 ^ k) + sg (fun i => (prs k).2.getD i 0 * ν (A + h + j * R + i * R)) (2 ^ k), ?_, ?_⟩
  · have e : ((2 ^ (14 + k) : Nat) : Int) * K j = 64 * (K j * 128 * ((2 * 2 ^ k : Nat) : Int)) := by
      rw [show (2 ^ (14 + k) : Nat) = 16384 * 2 ^ k by rw [Nat.pow_add], Int.natCast_mul, Int.natCast_mul]
      show (16384 : Int) * _ * _ = _
      generalize ((2 ^ k : Nat) : Int) = W
      rw [show ((2 : Nat) : Int) = 2 from rfl, Int.mul_assoc (K j) 128, ← Int.mul_assoc 128 2 W, Int.mul_left_comm 64, ← Int.mul_assoc 64, Int.mul_comm (16384 * W) (K j)]
      rfl
    rw [e, ← heart, Int.mul_add]
    omega
  · rw [Nat.mul_assoc]
    generalize 2 ^ k * B = W at *
    omega
end
end Go.Proofs.Ythcgeajojgecnaa.Fw
