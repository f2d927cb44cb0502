/- HuntSilence: the row of disturbance, and the law's run. -/
import Derived.Test.YtnccnmeecngopaaLwSiA
import Derived.Test.YtnccnmeecngopaaLwFnG
set_option maxRecDepth 100000
set_option maxHeartbeats 4000000
set_option exponentiation.threshold 4000
set_option linter.unusedSimpArgs false
set_option linter.unusedVariables false
namespace Go.Proofs.Ytnccnmeecngopaa.Fw
open Go Go.RowKit
def celI (x : Int) : List AV := [.int .i64 x]
/-- a part of a small number -/
def pt (x : Int) : Nat := fdiv (fofInt (x.tmod 4096)) 4661225614328463360
theorem pt_grid (x : Int) : grid (x.tmod 4096) (pt x) ∧ (x.tmod 4096).natAbs < 4096 := by
  have h : (x.tmod 4096).natAbs < 4096 := by
    rw [Int.natAbs_tmod]; exact Nat.mod_lt _ (by decide)
  exact ⟨grid_parts (Nat.lt_trans h (by decide)), h⟩
def prs (xs : List Int) : List Smp := (List.range (xs.length / 2)).map fun j => (pt (xs.getD (2 * j) 0), pt (xs.getD (2 * j + 1) 0), false)
theorem prs_len {xs : List Int} : (prs xs).length = xs.length / 2 := by simp [prs]
theorem prs_at {xs : List Int} {j : Nat} (h : j < (prs xs).length) : (prs xs)[j] = (pt (xs.getD (2 * j) 0), pt (xs.getD (2 * j + 1) 0), false) := by simp [prs]
theorem small_quiet {x y : Int} : quietS (pt x, pt y, false) = true := by
  obtain ⟨h1, h2⟩ := pt_grid x
  obtain ⟨h3, h4⟩ := pt_grid y
  unfold quietS
  rw [loud_grid h1 h3]
  have e1 : decide (65536 ≤ (x.tmod 4096).natAbs) = false := decide_eq_false (by omega)
  have e2 : decide (65536 ≤ (y.tmod 4096).natAbs) = false := decide_eq_false (by omega)
  rw [e1, e2]; rfl
def siA (xs : List Int) (at_ lo : Int) : Nat → St
  | 0 => siS0 (xs.map celI) at_ lo 0
  | j + 1 => siS1 (xs.map celI) at_ lo ((2 * (j + 1) : Nat) : Int) [18, j, 5] (j + 1) (((prs xs).take (j + 1)).map celS)
theorem siA_zero {xs : List Int} {at_ lo : Int} : siA xs at_ lo 0 = siS0 (xs.map celI) at_ lo 0 := rfl
theorem siA_succ {xs : List Int} {at_ lo : Int} {j : Nat} : siA xs at_ lo (j + 1) = siS1 (xs.map celI) at_ lo ((2 * (j + 1) : Nat) : Int) [18, j, 5] (j + 1) (((prs xs).take (j + 1)).map celS) := rfl
theorem getD_at {xs : List Int} {i : Nat} (h : i < xs.length) : (xs.map celI)[i]? = some [.int .i64 (xs.getD i 0)] := by
  rw [map_at (f := celI) h, List.getD_eq_getElem?_getD, List.getElem?_eq_getElem h]; rfl
theorem sl_den {L n : Nat} {x y : Int} : den ⟨fnOf, specS, L⟩ (n+1) 29 [.int .i64 x, .int .i64 y] = some (.cpx (pt x) (pt y)) := sl29_0
section
variable {L n : Nat} {xs : List Int} {at_ lo : Int}
theorem si_round {j : Nat} (hm : xs.length ≤ 17592186044000) (hj : j < (prs xs).length) :
    rnd 0 [0, 1, 2, 7, 8] (bodyOf ⟨fnOf, specS, L⟩ (runF ⟨fnOf, specS, L⟩ (n+1)) 0 m7b0 (j :: [5]) (siA xs at_ lo j)) = some (.nrm, siA xs at_ lo (j + 1)) := by
  have hj' := hj
  rw [prs_len] at hj'
  have hw1 : IntKind.wrap .i64 (((2 * j : Nat) : Int) + 1) = ((2 * j + 1 : Nat) : Int) := by rw [wrap_id (by omega)]; omega
  have hw2 : IntKind.wrap .i64 (((2 * j : Nat) : Int) + 2) = ((2 * (j + 1) : Nat) : Int) := by rw [wrap_id (by omega)]; omega
  have hc : decide (IntKind.wrap .i64 (((2 * j : Nat) : Int) + 1) < ((xs.map celI).length : Int)) = true := dT (by rw [hw1, List.length_map]; omega)
  have e1 := el_at (P := ⟨fnOf, specS, L⟩) (C := runF ⟨fnOf, specS, L⟩ (n+1)) (getD_at (xs := xs) (i := 2 * j) (by omega))
  have e2 := el_at (P := ⟨fnOf, specS, L⟩) (C := runF ⟨fnOf, specS, L⟩ (n+1)) (getD_at (xs := xs) (i := 2 * j + 1) (by omega))
  rw [← hw1] at e2
  cases j with
  | zero =>
    have := @si0_0 L (n+1) at_ lo ((2 * 0 : Nat) : Int) _ _ (xs.map celI) 0 _ _ [5] hc e1 e2 (call_den sl_den)
    rw [hw2] at this
    rw [siA_zero, siA_succ, mapTake_up hj, prs_at hj]
    exact this
  | succ j =>
    have := @si1_0 L (n+1) at_ lo ((2 * (j + 1) : Nat) : Int) _ _ (xs.map celI) (j + 1) _ _ [5] [18, j, 5] (j + 1) (((prs xs).take (j + 1)).map celS) hc e1 e2 (call_den sl_den) ⟨by rw [mapTake_len (by omega)], by simp only [roomOk, most]; omega⟩
    rw [hw2] at this
    rw [siA_succ, siA_succ, mapTake_up (i := j + 1) hj, prs_at hj]
    exact this
theorem si_loop (hm : xs.length ≤ 17592186044000) (hL : xs.length ≤ L) {m : Nat} (hx : (prs xs).length = m + 1) :
    Con.holds ⟨fnOf, specS, L+1⟩ (runF ⟨fnOf, specS, L+1⟩ (n+1)) (.loop 0 [0, 1, 2, 7, 8] m7b0 [5] (siA xs at_ lo 0) (.exit 0) ⟨siX (xs.map celI) ((2 * (m + 1) : Nat) : Int) ++ siE (xs.map celI) at_ lo (.slc ⟨0,39,0⟩ [18, m, 5] 2 0 ((prs xs).map celS).length false) ((2 * (m + 1) : Nat) : Int), [(⟨0,39,0⟩, ⟨[18, m, 5], (prs xs).map celS, 2, true⟩)], 5⟩) := by
  have hl : ((prs xs).map celS).length = m + 1 := by rw [List.length_map, hx]
  have h2 := prs_len (xs := xs)
  refine loop0 (siA xs at_ lo) (prs xs).length rfl (by omega) (fun i hi => si_round hm hi) ?_ (by simp)
  have hw1 : IntKind.wrap .i64 (((2 * (m + 1) : Nat) : Int) + 1) = ((2 * (m + 1) + 1 : Nat) : Int) := by rw [wrap_id (by omega)]; omega
  have := @si1_1 (L+1) (n+1) at_ lo ((2 * (m + 1) : Nat) : Int) 0 0 (xs.map celI) (m + 1) 0 0 [5] [18, m, 5] (m + 1) ((prs xs).map celS) (dF (by rw [hw1, List.length_map]; omega))
  rw [hx, siA_succ, List.take_of_length_le (by rw [hx]; exact Nat.le_refl _), hl]
  exact this
theorem si_loop0 (hm : xs.length ≤ 1) :
    Con.holds ⟨fnOf, specS, L+1⟩ (runF ⟨fnOf, specS, L+1⟩ n) (.loop 0 [0, 1, 2, 7, 8] m7b0 [5] (siA xs at_ lo 0) (.exit 0) ⟨siX (xs.map celI) 0 ++ siE (xs.map celI) at_ lo .nils 0, [], 5⟩) := by
  refine loop0 (siA xs at_ lo) 0 rfl (Nat.zero_le _) (fun i hi => absurd hi (by omega)) ?_ (by simp)
  exact @si0_1 (L+1) n at_ lo 0 0 0 (xs.map celI) 0 0 0 [5] (dF (by rw [wrap_id (by omega), List.length_map]; omega))
end
end Go.Proofs.Ytnccnmeecngopaa.Fw
