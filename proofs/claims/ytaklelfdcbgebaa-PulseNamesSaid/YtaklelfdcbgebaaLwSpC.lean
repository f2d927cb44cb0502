/- pulse.Shape: its loops, by what stands on the grid. -/
import Derived.Test.YtaklelfdcbgebaaLwSpA
import Derived.Test.YtaklelfdcbgebaaLwSpB
import Derived.Test.YtaklelfdcbgebaaLwChB
set_option maxRecDepth 100000
set_option maxHeartbeats 4000000
set_option linter.unusedSimpArgs false
set_option linter.unusedVariables false
set_option exponentiation.threshold 4000
namespace Go.Proofs.Ytaklelfdcbgebaa.Fw
open Go Go.RowKit
/-- z, t: the whole numbers of a row's component and of taps -/
def good (r T mm : Nat) (zr zi t : Nat → Int) (k i : Nat) (out : List (Nat × Nat)) : Prop :=
  out.length = mm ∧ ∀ m, m < mm → grid (accS r T zr t m k i) (out.getD m (0, 0)).1 ∧ grid (accS r T zi t m k i) (out.getD m (0, 0)).2
theorem accS_bound {r T m k i : Nat} {z t : Nat → Int} (hz : ∀ k, (z k).natAbs ≤ 8192) (ht : ∀ i, (t i).natAbs ≤ 8192) (hk : k ≤ 65536) (hT : T ≤ 64) (hi : i ≤ 64) : (accS r T z t m k i).natAbs < 2 ^ 53 := by
  have h1 : (sumI k (fun k' => sumI T (term r z t m k'))).natAbs ≤ k * (T * 67108864) := sumI_bound fun k' _ => sumI_bound fun i' _ => term_bound (hz _) (ht _)
  have h2 : (sumI i (term r z t m k)).natAbs ≤ i * 67108864 := sumI_bound fun i' _ => term_bound (hz _) (ht _)
  have h3 : k * (T * 67108864) ≤ 65536 * (64 * 67108864) := Nat.mul_le_mul hk (Nat.mul_le_mul_right _ hT)
  unfold accS
  omega
theorem good_step {r T mm k i re im x : Nat} {zr zi t : Nat → Int} {out : List (Nat × Nat)} (hz : ∀ k, (zr k).natAbs ≤ 8192) (hy : ∀ k, (zi k).natAbs ≤ 8192) (ht : ∀ i, (t i).natAbs ≤ 8192)
    (hk : k ≤ 65536) (hT : T ≤ 64) (hi : i < T) (hm : k * r + i < mm) (h1 : six (zr k) re) (h2 : six (zi k) im) (h3 : six (t i) x) (h : good r T mm zr zi t k i out) :
    good r T mm zr zi t k (i + 1) (out.set (k * r + i) (fadd (out.getD (k * r + i) (0, 0)).1 (fmul re x), fadd (out.getD (k * r + i) (0, 0)).2 (fmul im x))) := by
  obtain ⟨hl, hg⟩ := h
  refine ⟨by rw [List.length_set, hl], fun m hm2 => ?_⟩
  rw [accS_step, accS_step]
  by_cases e : k * r + i = m
  · subst e
    rw [List.getD_eq_getElem?_getD (l := out.set _ _), List.getElem?_set_self (by omega)]
    have b1 := @accS_bound r T (k * r + i) k (i + 1) zr t hz ht hk hT (by omega)
    have b2 := @accS_bound r T (k * r + i) k (i + 1) zi t hy ht hk hT (by omega)
    rw [accS_step] at b1 b2
    have q : ∀ z : Nat → Int, term r z t (k * r + i) k i = z k * t i := fun z => by unfold term; rw [if_pos rfl]
    have n1 : (zr k * t i).natAbs < 2 ^ 53 := by rw [Int.natAbs_mul]; have := Nat.mul_le_mul (hz k) (ht i); omega
    have n2 : (zi k * t i).natAbs < 2 ^ 53 := by rw [Int.natAbs_mul]; have := Nat.mul_le_mul (hy k) (ht i); omega
    rw [q] at b1 b2
    rw [q, q]
    exact ⟨grid_add (hg _ hm).1 (six_mul h1 h3 n1) b1, grid_add (hg _ hm).2 (six_mul h2 h3 n2) b2⟩
  · rw [List.getD_eq_getElem?_getD (l := out.set _ _), List.getElem?_set_ne e, ← List.getD_eq_getElem?_getD]
    have q : ∀ z : Nat → Int, term r z t m k i = 0 := fun z => by unfold term; rw [if_neg e]
    rw [q, q, Int.add_zero, Int.add_zero]
    exact hg m hm2
section
variable {L n r mm : Nat} {fore : Int} {ts : List Nat} {zs : List (Nat × Nat)} {zr zi t : Nat → Int}
theorem shape_row {k re im : Nat} {π : List Nat} {out : List (Nat × Nat)} (hz : ∀ k, (zr k).natAbs ≤ 8192) (hy : ∀ k, (zi k).natAbs ≤ 8192) (ht : ∀ i, (t i).natAbs ≤ 8192) (hL : 64 ≤ L)
    (hk : k ≤ 65536) (hT : ts.length ≤ 64) (hm : ∀ i, i < ts.length → k * r + i < mm) (hM : mm ≤ 65536) (h1 : six (zr k) re) (h2 : six (zi k) im) (h3 : ∀ i, i < ts.length → six (t i) (ts.getD i 0))
    (h : good r ts.length mm zr zi t k 0 out) :
    ∃ out2, Con.holds ⟨fnOf, specL, L+1⟩ (runF ⟨fnOf, specL, L+1⟩ n) (.loop 0 [2, 8, 9, 10, 25, 26, 27, 43, 44, 45] m18b0 (20 :: k :: π) (sh2 r fore ts zs out mm k re im 0) (.exit 2) (sh2 r fore ts zs out2 mm k re im ts.length)) ∧ good r ts.length mm zr zi t (k + 1) 0 out2 := by
  obtain ⟨s', g1, out2, rfl, g2⟩ := loopI (P := ⟨fnOf, specL, L+1⟩) (C := runF ⟨fnOf, specL, L+1⟩ n) (L := L) (d := 0) (live := [2, 8, 9, 10, 25, 26, 27, 43, 44, 45]) (π := 20 :: k :: π) (m := m18b0) (A := sh2 r fore ts zs out mm k re im 0)
    (fun i s => ∃ o2, s = sh2 r fore ts zs o2 mm k re im i ∧ good r ts.length mm zr zi t k i o2) (fun s => ∃ o2, s = sh2 r fore ts zs o2 mm k re im ts.length ∧ good r ts.length mm zr zi t k ts.length o2) ts.length (x := .exit 2) (by simp) rfl (by omega) ⟨out, rfl, h⟩
    (fun i s hi hs => by
      obtain ⟨o2, rfl, hg⟩ := hs
      have hx := hm i hi
      have hx2 : k * r + i < o2.length := by rw [hg.1]; exact hx
      have e : IntKind.wrap .i64 (IntKind.wrap .i64 ((k : Int) * (r : Int)) + (i : Int)) = ((k * r + i : Nat) : Int) := by
        have e0 : (k : Int) * (r : Int) = ((k * r : Nat) : Int) := by rw [Int.natCast_mul]
        rw [e0]
        generalize k * r = q at hx
        rw [wrap_id (n := ((q : Nat) : Int)) (by omega), wrap_id (by omega)]; omega
      have i1 : Con.holds ⟨fnOf, specL, L+1⟩ (runF ⟨fnOf, specL, L+1⟩ n) (.ix (.int .i64 (IntKind.wrap .i64 (IntKind.wrap .i64 ((k : Int) * (r : Int)) + (i : Int)))) mm (k * r + i)) := by rw [e]; exact ix_at hx
      have a1 : Con.holds ⟨fnOf, specL, L+1⟩ (runF ⟨fnOf, specL, L+1⟩ n) (.at (o2.map celC) (0 + (k * r + i)) [.cpx (o2.getD (k * r + i) (0, 0)).1 (o2.getD (k * r + i) (0, 0)).2]) := by
        rw [Nat.zero_add]; exact atD_map (f := celC) hx2
      have := @sh2_0 (L+1) n (r : Int) fore 0 ts [] π zs o2 [] mm k 0 0 re im i (ts.getD i 0) (k * r + i) (o2.getD (k * r + i) (0, 0)) (k * r + i) (o2.getD (k * r + i) (0, 0)) (by rw [map_len]; exact dLt hi) (elD_map (f := celF) hi) i1 a1 i1 a1
      rw [wrap_id (n := (i : Int) + 1) (by omega)] at this
      refine ⟨_, seeZ_go this, _, ?_, good_step hz hy ht hk hT hi hx h1 h2 (h3 i hi) hg⟩
      unfold sh2
      rw [List.map_set, Nat.zero_add]
      rfl)
    (fun s hs => by
      obtain ⟨o2, rfl, hg⟩ := hs
      exact ⟨_, seeZ_go (@sh2_1 (L+1) n (r : Int) fore 0 ts [] π zs o2 [] mm k 0 0 re im ts.length (by rw [map_len]; exact dNlt)), o2, rfl, hg⟩)
  refine ⟨out2, g1, g2.1, fun m hm2 => ?_⟩
  rw [← accS_next, ← accS_next]
  exact g2.2 m hm2
end
end Go.Proofs.Ytaklelfdcbgebaa.Fw
