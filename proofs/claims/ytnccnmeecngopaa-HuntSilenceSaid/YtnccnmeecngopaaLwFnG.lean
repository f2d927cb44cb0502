/- hunt.Find: nothing where all is quiet; the first loud sample. Numbers on the grid: when they are loud. -/
import Derived.Test.YtnccnmeecngopaaLwFnF
set_option maxRecDepth 100000
set_option maxHeartbeats 4000000
set_option exponentiation.threshold 4000
set_option linter.unusedSimpArgs false
set_option linter.unusedVariables false
namespace Go.Proofs.Ytnccnmeecngopaa.Fw
open Go Go.RowKit
section
variable {L n : Nat}
theorem find_none {rows : List Smp} {f t : Nat} (hL : rows.length ≤ L) (hm : rows.length ≤ 65536) (hft : f ≤ t) (htl : t ≤ rows.length) (hq : ∀ i (hi : i < rows.length), f ≤ i → i < t → quietS rows[i] = true) :
    den ⟨fnOf, specS, L+1⟩ (n+1) 19 [.lst 2 (rows.map celS), .int .i64 f, .int .i64 t] = some (.tup [.agg [.int .i64 0, .flt 0, .int .i64 0], .int .i64 6]) := by
  have hl : (rows.map celS).length = rows.length := List.length_map ..
  obtain ⟨sub, hsub⟩ : ∃ sub, sub = (rows.take t).drop f := ⟨_, rfl⟩
  have hss : ((rows.map celS).take t).drop f = sub.map celS := by rw [hsub, List.map_drop, List.map_take]
  have hsl : sub.length = t - f := by rw [hsub, List.length_drop, List.length_take]; omega
  have hat : ∀ i (hi : i < sub.length), sub[i] = rows[f + i]'(by omega) := fun i hi => by simp [hsub]
  have h36 := slc36 (L := L+1) (els := rows.map celS) (fr := f) (tt := t) (C := runF ⟨fnOf, specS, L+1⟩ n) (H := [(⟨0,6,0⟩, ⟨[0], [[.int .i64 0, .flt 0, .int .i64 0]], 3, true⟩)]) hft (by rw [hl]; exact htl)
  rw [hss] at h36
  have hd : Con.holds ⟨fnOf, specS, L+1⟩ (runF ⟨fnOf, specS, L+1⟩ n) (.loop 0 [1, 6, 36, 37, 38] m19b0 [26] (FdSt f (sub.map celS) 0) (.exit 0) (FdEx f (sub.map celS))) := by
    refine loopX (res := m19.res) (FdSt f (sub.map celS)) (sub.map celS).length rfl (by rw [List.length_map]; omega) (fun i hi => ?_) ?_ (by simp)
    · have hi' : i < sub.length := by rw [List.length_map] at hi; exact hi
      exact fd_go (by omega) hi' (by rw [hat i hi']; exact hq _ _ (by omega) (by omega))
    · exact @fd_38 (L+1) n f (sub.map celS) (sub.map celS).length 0 0 false [26] dNlt
  exact fdn_4 (dF (by rw [hl]; omega)) (dF (by omega)) (dF (by omega)) (dF (by rw [hl]; omega)) h36 hd
theorem find_some {rows : List Smp} {f t j : Nat} (hL : rows.length ≤ L) (hm : rows.length ≤ 65536) (htl : t ≤ rows.length) (hfj : f ≤ j) (hj : j < t) (hq : ∀ i (hi : i < rows.length), f ≤ i → i < j → quietS rows[i] = true)
    (hb : quietS (rows[j]'(by omega)) = false) :
    den ⟨fnOf, specS, L+1⟩ (n+1) 19 [.lst 2 (rows.map celS), .int .i64 f, .int .i64 t] = some (outcome j (rows[j]'(by omega)).1 (rows[j]'(by omega)).2.1 (useD (rows[j]'(by omega)).1 (rows[j]'(by omega)).2.1)) := by
  have hl : (rows.map celS).length = rows.length := List.length_map ..
  obtain ⟨k, rfl⟩ : ∃ k, j = f + k := ⟨j - f, by omega⟩
  obtain ⟨sub, hsub⟩ : ∃ sub, sub = (rows.take t).drop f := ⟨_, rfl⟩
  have hss : ((rows.map celS).take t).drop f = sub.map celS := by rw [hsub, List.map_drop, List.map_take]
  have hsl : sub.length = t - f := by rw [hsub, List.length_drop, List.length_take]; omega
  have hat : ∀ i (hi : i < sub.length), sub[i] = rows[f + i]'(by omega) := fun i hi => by simp [hsub]
  have h36 := slc36 (L := L+1) (els := rows.map celS) (fr := f) (tt := t) (C := runF ⟨fnOf, specS, L+1⟩ n) (H := [(⟨0,6,0⟩, ⟨[0], [[.int .i64 0, .flt 0, .int .i64 0]], 3, true⟩)]) (by omega) (by rw [hl]; exact htl)
  rw [hss] at h36
  have hf : IntKind.wrap .i64 ((f : Int) + (k : Int)) = ((f + k : Nat) : Int) := by rw [wrap_id (by omega)]; omega
  have hk : k < sub.length := by omega
  obtain ⟨s1, hd, ho1⟩ := loopZ (P := ⟨fnOf, specS, L+1⟩) (C := runF ⟨fnOf, specS, L+1⟩ n) (π := [26]) (FdSt f (sub.map celS)) k rfl (by omega) (fun i hi => fd_go (by omega) (by omega) (by rw [hat i (by omega)]; exact hq _ _ (by omega) (by omega))) (fd_out hk (by rw [hat k hk]; exact hb))
  rw [hf, hat k hk] at ho1
  exact fdt_4 (dF (by rw [hl]; omega)) (dF (by omega)) (dF (by omega)) (dF (by rw [hl]; omega)) h36 hd ho1
end
/-- on the grid: in parts of 2^-12 -/
theorem grid_nan {m : Int} {x : Nat} (h : grid m x) : isNaN x = false := fin_num h.1
theorem grid_rk {m : Int} {x : Nat} (h : grid m x) : rk x = m * 2 ^ 1062 := by rw [rk_fin h.1, h.2]
theorem p1062 : (0 : Int) < 2 ^ 1062 := Int.pow_pos (by decide)
theorem rk16 : rk 4625196817309499392 = 65536 * 2 ^ 1062 := by kernel_rfl
theorem le_unit {a b : Int} : a * 2 ^ 1062 ≤ b * 2 ^ 1062 ↔ a ≤ b := Int.mul_le_mul_right p1062
theorem lt_unit {a b : Int} : a * 2 ^ 1062 < b * 2 ^ 1062 ↔ a < b := Int.mul_lt_mul_right p1062
theorem abs_unit (m : Int) : ((m * 2 ^ 1062).natAbs : Int) = (m.natAbs : Int) * 2 ^ 1062 := by
  rw [Int.natAbs_mul]
  have := p1062
  generalize (2 : Int) ^ 1062 = B at *
  rw [Int.natCast_mul]
  congr 1
  omega
theorem loud_grid {m n : Int} {a b : Nat} {lost : Bool} (ha : grid m a) (hb : grid n b) : loud a b lost = (!lost && (decide (65536 ≤ m.natAbs) || decide (65536 ≤ n.natAbs))) := by
  have h16 : isNaN 4625196817309499392 = false := by decide
  unfold loud
  rw [fge_rk, fge_rk, (absF_rk a).1, (absF_rk a).2, (absF_rk b).1, (absF_rk b).2, h16, grid_nan ha, grid_nan hb, grid_rk ha, grid_rk hb, rk16, abs_unit, abs_unit]
  simp only [le_unit, Bool.not_false, Bool.true_and]
  congr 2 <;> exact decide_eq_decide.2 (by omega)
theorem useD_grid {m n : Int} {a b : Nat} (ha : grid m a) (hb : grid n b) : useD a b = decide (m.natAbs < n.natAbs) := by
  unfold useD
  rw [fgt_rk, feq_rk, (absF_rk a).1, (absF_rk a).2, (absF_rk b).1, (absF_rk b).2, grid_nan ha, grid_nan hb, grid_rk ha, grid_rk hb, abs_unit, abs_unit]
  simp [lt_unit]
theorem neg_grid {m : Int} {a : Nat} (ha : grid m a) : flt a 0 = decide (m < 0) := by
  have h0 : isNaN 0 = false := by decide
  have hz : rk 0 = 0 * 2 ^ 1062 := by kernel_rfl
  rw [flt_rk, grid_nan ha, h0, grid_rk ha, hz]
  simp only [Bool.not_false, Bool.true_and]
  exact decide_eq_decide.2 lt_unit
end Go.Proofs.Ytnccnmeecngopaa.Fw
