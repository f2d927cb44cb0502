/- The document's Shape, the sum of one sample. -/
import Derived.Test.YtaklelfdcbgebaaLwSpD
set_option maxRecDepth 100000
set_option maxHeartbeats 4000000
set_option linter.unusedSimpArgs false
set_option linter.unusedVariables false
set_option exponentiation.threshold 4000
namespace Go.Proofs.Ytaklelfdcbgebaa.Fw
open Go Go.RowKit
theorem accD_bound {r K m i : Nat} {z t : Nat → Int} (hz : ∀ k, (z k).natAbs ≤ 8192) (ht : ∀ i, (t i).natAbs ≤ 8192) (hi : i ≤ 64) : (accD r K z t m i).natAbs < 2 ^ 53 := by
  have h : (accD r K z t m i).natAbs ≤ i * 67108864 := by
    refine sumI_bound fun i' _ => ?_
    split
    · rw [Int.natAbs_mul]; exact Nat.mul_le_mul (hz _) (ht _)
    · exact Nat.zero_le _
  omega
theorem accD_step {r K m i : Nat} {z t : Nat → Int} : accD r K z t m (i + 1) = accD r K z t m i + if i ≤ m ∧ (m - i) % r = 0 ∧ (m - i) / r < K then z ((m - i) / r) * t i else 0 := rfl
section
variable {L n r M : Nat} {fore : Int} {ts st : List Nat} {zs out : List (Nat × Nat)} {zr zi t : Nat → Int}
theorem doc_sum {m o : Nat} {π : List Nat} (hz : ∀ k, (zr k).natAbs ≤ 8192) (hy : ∀ k, (zi k).natAbs ≤ 8192) (ht : ∀ i, (t i).natAbs ≤ 8192) (hL : 64 ≤ L)
    (hr : 1 ≤ r) (hT : ts.length ≤ 64) (hm : m ≤ 65536) (hK : zs.length ≤ 65536)
    (h1 : ∀ k, k < zs.length → six (zr k) (zs.getD k (0, 0)).1 ∧ six (zi k) (zs.getD k (0, 0)).2) (h3 : ∀ i, i < ts.length → six (t i) (ts.getD i 0)) :
    ∃ re im, Con.holds ⟨fnOf, specL, L+1⟩ (runF ⟨fnOf, specL, L+1⟩ n) (.loop 0 [1, 2, 6, 8, 9, 10, 11, 12] m19b0 (6 :: m :: π) (sd2 r fore ts zs out st o M m 0 0 0) (.exit 2) (sd2 r fore ts zs out st o M m re im ts.length))
      ∧ grid (accD r zs.length zr t m ts.length) re ∧ grid (accD r zs.length zi t m ts.length) im := by
  have hkz : (zs.map celC).length = zs.length := map_len
  have htz : (ts.map celF).length = ts.length := map_len
  obtain ⟨s', g1, re, im, rfl, g2, g3⟩ := loopI (P := ⟨fnOf, specL, L+1⟩) (C := runF ⟨fnOf, specL, L+1⟩ n) (L := L) (d := 0) (live := [1, 2, 6, 8, 9, 10, 11, 12]) (π := 6 :: m :: π) (m := m19b0) (A := sd2 r fore ts zs out st o M m 0 0 0)
    (fun i s => ∃ re im, s = sd2 r fore ts zs out st o M m re im i ∧ grid (accD r zs.length zr t m i) re ∧ grid (accD r zs.length zi t m i) im)
    (fun s => ∃ re im, s = sd2 r fore ts zs out st o M m re im ts.length ∧ grid (accD r zs.length zr t m ts.length) re ∧ grid (accD r zs.length zi t m ts.length) im) ts.length (x := .exit 2) (by simp) rfl (by omega) ⟨0, 0, rfl, grid_zero0, grid_zero0⟩
    (fun i s hi hs => by
      obtain ⟨re, im, rfl, ga, gb⟩ := hs
      have b1 := @accD_bound r zs.length m (i + 1) zr t hz ht (by omega)
      have b2 := @accD_bound r zs.length m (i + 1) zi t hy ht (by omega)
      have hz0 : Con.holds ⟨fnOf, specL, L+1⟩ (runF ⟨fnOf, specL, L+1⟩ n) (.nz (r : Int)) := by show (r : Int) ≠ 0; omega
      have d0 : decide ((i : Int) < ((ts.map celF).length : Int)) = true := by rw [htz]; exact dLt hi
      rw [accD_step] at b1 b2
      by_cases c1 : i ≤ m
      · have e1 : IntKind.wrap .i64 ((m : Int) - (i : Int)) = ((m - i : Nat) : Int) := by rw [wrap_id (by omega)]; omega
        have d1 : decide (IntKind.wrap .i64 ((m : Int) - (i : Int)) ≥ 0) = true := by rw [e1]; exact decide_eq_true (by omega)
        have e2 : (IntKind.wrap .i64 ((m : Int) - (i : Int))).tmod (r : Int) = (((m - i) % r : Nat) : Int) := by rw [e1]; exact (Int.ofNat_tmod _ _).symm
        have q : (m - i) / r ≤ m - i := Nat.div_le_self _ _
        have e3 : IntKind.wrap .i64 ((IntKind.wrap .i64 ((m : Int) - (i : Int))).tdiv (r : Int)) = (((m - i) / r : Nat) : Int) := by
          rw [e1, ← Int.ofNat_tdiv]
          generalize (m - i) / r = w at q
          exact wrap_id (by omega)
        by_cases c2 : (m - i) % r = 0
        · have d2 : ((IntKind.wrap .i64 ((m : Int) - (i : Int))).tmod (r : Int) == 0) = true := by rw [e2, c2]; rfl
          by_cases c3 : (m - i) / r < zs.length
          · have d3 : decide (IntKind.wrap .i64 ((IntKind.wrap .i64 ((m : Int) - (i : Int))).tdiv (r : Int)) < ((zs.map celC).length : Int)) = true := by rw [e3, hkz]; exact decide_eq_true (by exact_mod_cast c3)
            have he : Con.holds ⟨fnOf, specL, L+1⟩ (runF ⟨fnOf, specL, L+1⟩ n) (.el (zs.map celC) (.int .i64 (IntKind.wrap .i64 ((IntKind.wrap .i64 ((m : Int) - (i : Int))).tdiv (r : Int)))) [.cpx (zs.getD ((m - i) / r) (0, 0)).1 (zs.getD ((m - i) / r) (0, 0)).2]) := by rw [e3]; exact elD_map (f := celC) c3
            have := @sd2_0 (L+1) n (r : Int) fore M ts st π zs out [] 0 0 o m re im i _ _ _ _ d0 d1 hz0 d2 d3 he (elD_map (f := celF) (d := 0) hi) he (elD_map (f := celF) (d := 0) hi)
            rw [wrap_id (n := (i : Int) + 1) (by omega)] at this
            rw [if_pos ⟨c1, c2, c3⟩] at b1 b2
            have n1 : (zr ((m - i) / r) * t i).natAbs < 2 ^ 53 := by rw [Int.natAbs_mul]; have := Nat.mul_le_mul (hz ((m - i) / r)) (ht i); omega
            have n2 : (zi ((m - i) / r) * t i).natAbs < 2 ^ 53 := by rw [Int.natAbs_mul]; have := Nat.mul_le_mul (hy ((m - i) / r)) (ht i); omega
            refine ⟨_, this, _, _, rfl, ?_, ?_⟩
            · rw [accD_step, if_pos ⟨c1, c2, c3⟩]; exact grid_add ga (six_mul (h1 _ c3).1 (h3 i hi) n1) b1
            · rw [accD_step, if_pos ⟨c1, c2, c3⟩]; exact grid_add gb (six_mul (h1 _ c3).2 (h3 i hi) n2) b2
          · have d3 : decide (IntKind.wrap .i64 ((IntKind.wrap .i64 ((m : Int) - (i : Int))).tdiv (r : Int)) < ((zs.map celC).length : Int)) = false := by rw [e3, hkz]; exact decide_eq_false (by exact_mod_cast c3)
            have := @sd2_1 (L+1) n (r : Int) fore M ts st π zs out [] 0 0 o m re im i d0 d1 hz0 d2 d3
            rw [wrap_id (n := (i : Int) + 1) (by omega)] at this
            refine ⟨_, this, _, _, rfl, ?_, ?_⟩ <;> (rw [accD_step, if_neg (fun h => c3 h.2.2), Int.add_zero]; assumption)
        · have d2 : ((IntKind.wrap .i64 ((m : Int) - (i : Int))).tmod (r : Int) == 0) = false := by rw [e2]; simp only [beq_eq_false_iff_ne]; omega
          have := @sd2_2 (L+1) n (r : Int) fore M ts st π zs out [] 0 0 o m re im i d0 d1 hz0 d2
          rw [wrap_id (n := (i : Int) + 1) (by omega)] at this
          refine ⟨_, this, _, _, rfl, ?_, ?_⟩ <;> (rw [accD_step, if_neg (fun h => c2 h.2.1), Int.add_zero]; assumption)
      · have d1 : decide (IntKind.wrap .i64 ((m : Int) - (i : Int)) ≥ 0) = false := by rw [wrap_id (by omega)]; exact decide_eq_false (by omega)
        have := @sd2_3 (L+1) n (r : Int) fore M ts st π zs out [] 0 0 o m re im i d0 d1
        rw [wrap_id (n := (i : Int) + 1) (by omega)] at this
        refine ⟨_, this, _, _, rfl, ?_, ?_⟩ <;> (rw [accD_step, if_neg (fun h => c1 h.1), Int.add_zero]; assumption))
    (fun s hs => by
      obtain ⟨re, im, rfl, ga, gb⟩ := hs
      exact ⟨_, @sd2_4 (L+1) n (r : Int) fore M ts st π zs out [] 0 0 o m re im ts.length (by rw [htz]; exact dNlt), re, im, rfl, ga, gb⟩)
  exact ⟨re, im, g1, g2, g3⟩
end
end Go.Proofs.Ytaklelfdcbgebaa.Fw
