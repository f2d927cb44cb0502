/- numbers; samePoints. -/
import Derived.Test.YtaklelfdcbgebaaLwSpF
set_option maxRecDepth 100000
set_option maxHeartbeats 4000000
set_option linter.unusedSimpArgs false
set_option linter.unusedVariables false
namespace Go.Proofs.Ytaklelfdcbgebaa.Fw
open Go Go.RowKit
section
variable {σ : FuncId → Option (List AV → Option AV)} {L n : Nat}
theorem points_same {us vs : List (Nat × Nat)} (hl : us.length = vs.length) (hL : us.length ≤ L) (hm : us.length ≤ 17592186044415)
    (h : ∀ i, i < us.length → feq (us.getD i (0, 0)).1 (vs.getD i (0, 0)).1 = true ∧ feq (us.getD i (0, 0)).2 (vs.getD i (0, 0)).2 = true) :
    den ⟨fnOf, σ, L+1⟩ (n+1) 20 [.lst 1 (us.map celC), .lst 1 (vs.map celC)] = some (.v (.bool true)) := by
  have hu : (us.map celC).length = us.length := map_len
  have hv : (vs.map celC).length = vs.length := map_len
  refine @psp_1 σ (L+1) n us vs us.length [] (by rw [hu, hv, hl]; simp) ?_
  refine loopX (res := m20.res) (fun i => pspSt us vs i) us.length rfl hL (fun i hi => ?_) ?_ (by simp)
  · have := @ppr_1 σ (L+1) n us vs i [7] (us.getD i (0, 0)) (vs.getD i (0, 0)) (by rw [hu]; exact dLt hi) (elD_map (f := celC) hi) (elD_map (f := celC) (by omega)) (by rw [(h i hi).1, (h i hi).2]; rfl)
    rw [wrap_id (n := (i : Int) + 1) (by omega)] at this
    exact this
  · exact @ppr_2 σ (L+1) n us vs us.length [7] (by rw [hu]; exact dNlt)
/-- the points that a law makes out of numbers -/
def numL (xs : List Int) (n : Nat) : List (Nat × Nat) := (List.range n).map fun j => (fdiv (fofInt (xs.getD (2 * j) 0)) 4634204016564240384, fdiv (fofInt (xs.getD (2 * j + 1) 0)) 4634204016564240384)
theorem numL_up {xs : List Int} {j : Nat} : numL xs (j + 1) = numL xs j ++ [(fdiv (fofInt (xs.getD (2 * j) 0)) 4634204016564240384, fdiv (fofInt (xs.getD (2 * j + 1) 0)) 4634204016564240384)] := by
  unfold numL; rw [List.range_succ, List.map_append]; rfl
theorem numL_len {xs : List Int} {j : Nat} : (numL xs j).length = j := by unfold numL; rw [List.length_map, List.length_range]
theorem numbers_den {xs : List Int} (hm : xs.length ≤ 17592186044415) (hL : xs.length ≤ L) :
    den ⟨fnOf, σ, L+1⟩ (n+1) 17 [.lst 1 (xs.map celI)] = some (.own 1 ((numL xs (xs.length / 2)).map celC) true) := by
  have hl : (xs.map celI).length = xs.length := map_len
  obtain ⟨s', h1, st, rfl⟩ := loopI (P := ⟨fnOf, σ, L+1⟩) (C := runF ⟨fnOf, σ, L+1⟩ n) (L := L) (d := 0) (live := [0, 3, 4]) (π := [3]) (m := m17b0) (A := pnuSt xs [] [3] 0 0)
    (fun j s => ∃ st, s = pnuSt xs (numL xs j) st j (2 * j)) (fun s => ∃ st, s = pnuSt xs (numL xs (xs.length / 2)) st (xs.length / 2) (2 * (xs.length / 2))) (xs.length / 2) (x := .exit 0) (by simp) rfl (by omega) ⟨[3], rfl⟩
    (fun j s hj hs => by
      obtain ⟨st, rfl⟩ := hs
      have hp : Con.holds ⟨fnOf, σ, L+1⟩ (runF ⟨fnOf, σ, L+1⟩ n) (.push j 1 16 ((numL xs j).map celC)) := push_ok (by rw [map_len, numL_len]) (by simp only [most]; omega)
      have e1 : IntKind.wrap .i64 (((2 * j : Nat) : Int) + 1) = ((2 * j + 1 : Nat) : Int) := by rw [wrap_id (by omega)]; omega
      have he : Con.holds ⟨fnOf, σ, L+1⟩ (runF ⟨fnOf, σ, L+1⟩ n) (.el (xs.map celI) (.int .i64 (IntKind.wrap .i64 (((2 * j : Nat) : Int) + 1))) [.int .i64 (xs.getD (2 * j + 1) 0)]) := by
        rw [e1]; exact elD_map (f := celI) (by omega)
      have := @pnr_0 σ (L+1) n xs (numL xs j) st [j, 3] j (2 * j) (xs.getD (2 * j) 0) (xs.getD (2 * j + 1) 0) (by rw [e1, hl]; exact dLt (by omega)) (elD_map (f := celI) (by omega)) he hp
      rw [wrap_id (n := ((2 * j : Nat) : Int) + 2) (by omega)] at this
      refine ⟨_, this, [21, j, 3], ?_⟩
      unfold pnuSt
      rw [numL_up, List.map_append, show ((2 * j : Nat) : Int) + 2 = ((2 * (j + 1) : Nat) : Int) by omega]
      rfl)
    (fun s hs => by
      obtain ⟨st, rfl⟩ := hs
      exact ⟨_, @pnr_1 σ (L+1) n xs (numL xs (xs.length / 2)) st [xs.length / 2, 3] (xs.length / 2) (2 * (xs.length / 2)) (by rw [hl, wrap_id (by omega)]; exact dF (by omega)), st, rfl⟩)
  have := @pnu_0 σ (L+1) n xs (numL xs (xs.length / 2)) st [] (xs.length / 2) (2 * (xs.length / 2)) h1 (by show _ ≤ _; rw [show List.length _ = _ from map_len, numL_len]; exact Nat.le_refl _)
  rw [this, takeMap numL_len.symm]
end
end Go.Proofs.Ytaklelfdcbgebaa.Fw
