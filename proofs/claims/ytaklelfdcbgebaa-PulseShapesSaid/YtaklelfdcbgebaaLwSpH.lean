/- Rows; pulse.Shape where a point is not plain. -/
import Derived.Test.YtaklelfdcbgebaaLwSpG
set_option maxRecDepth 100000
set_option maxHeartbeats 4000000
set_option linter.unusedSimpArgs false
set_option linter.unusedVariables false
namespace Go.Proofs.Ytaklelfdcbgebaa.Fw
open Go Go.RowKit
def ptOK (z : Nat × Nat) : Bool := plainF z.1 4638707616191610880 && plainF z.2 4638707616191610880
section
variable {L n r mm : Nat} {fore : Int} {ts : List Nat} {zs : List (Nat × Nat)} {zr zi t : Nat → Int}
theorem rows_go {k i : Nat} (hk : k ≤ zs.length) (hm : zs.length ≤ 17592186044415) (h : ∀ i, i < k → ptOK (zs.getD i (0, 0)) = true) (hi : i < k) :
    seeZ 0 [0, 3] m37.res (bodyOf ⟨fnOf, specL, L+1⟩ (runF ⟨fnOf, specL, L+1⟩ n) 0 m37b0 (i :: [2]) (proSt zs i)) = some (.go .nrm (proSt zs (i + 1))) := by
  have hkz : (zs.map celC).length = zs.length := map_len
  have hp := h i hi
  unfold ptOK at hp
  rw [Bool.and_eq_true] at hp
  have := @prr_2 (L+1) n zs i [2] (zs.getD i (0, 0)) (zs.getD i (0, 0)) (by rw [hkz]; exact dLt (by omega)) (elD_map (f := celC) (by omega)) (by rw [hp.1]; rfl) (elD_map (f := celC) (by omega)) (by rw [hp.2]; rfl)
  rw [wrap_id (n := (i : Int) + 1) (by omega)] at this
  exact this
theorem rows_all (hL : zs.length ≤ L) (hm : zs.length ≤ 17592186044415) (h : ∀ i, i < zs.length → ptOK (zs.getD i (0, 0)) = true) :
    den ⟨fnOf, specL, L+1⟩ (n+1) 37 [.lst 1 (zs.map celC)] = some (.v (.bool true)) := by
  have hkz : (zs.map celC).length = zs.length := map_len
  refine @pro_0 (L+1) n zs zs.length ?_
  exact loopX (res := m37.res) (fun i => proSt zs i) zs.length rfl hL (fun i hi => rows_go (Nat.le_refl _) hm h hi) (@prr_3 (L+1) n zs zs.length [2] (by rw [hkz]; exact dNlt)) (by simp)
theorem rows_bad {k : Nat} (hk : k < zs.length) (hL : zs.length ≤ L) (hm : zs.length ≤ 17592186044415) (h : ∀ i, i < k → ptOK (zs.getD i (0, 0)) = true) (hb : ptOK (zs.getD k (0, 0)) = false) :
    den ⟨fnOf, specL, L+1⟩ (n+1) 37 [.lst 1 (zs.map celC)] = some (.v (.bool false)) := by
  have hkz : (zs.map celC).length = zs.length := map_len
  obtain ⟨s1, hd, ho⟩ := loopZ (P := ⟨fnOf, specL, L+1⟩) (C := runF ⟨fnOf, specL, L+1⟩ n) (π := [2]) (res := m37.res) (fun i => proSt zs i) k rfl (by omega) (fun i hi => rows_go (by omega) hm h hi)
    (v := .v (.bool false)) (by
      unfold ptOK at hb
      cases c : plainF (zs.getD k (0, 0)).1 4638707616191610880 with
      | false => exact @prr_0 (L+1) n zs k [2] (zs.getD k (0, 0)) (by rw [hkz]; exact dLt hk) (elD_map (f := celC) hk) (by rw [c]; rfl)
      | true =>
        rw [c] at hb
        exact @prr_1 (L+1) n zs k [2] (zs.getD k (0, 0)) (zs.getD k (0, 0)) (by rw [hkz]; exact dLt hk) (elD_map (f := celC) hk) (by rw [c]; rfl) (elD_map (f := celC) hk) (by
          rw [Bool.true_and] at hb; rw [hb]; rfl))
  exact prot_0 hd ho
theorem shape_bad {k : Nat} (hk : k < zs.length) (hz : ∀ k, (zr k).natAbs ≤ 8192) (hy : ∀ k, (zi k).natAbs ≤ 8192) (ht : ∀ i, (t i).natAbs ≤ 8192) (hL : 65536 ≤ L)
    (hl : lenF r fore ts zs.length = ((mm : Int), 0)) (hp : ∀ i, i < k → ptOK (zs.getD i (0, 0)) = true) (hb : ptOK (zs.getD k (0, 0)) = false)
    (h1 : ∀ i, i < k → six (zr i) (zs.getD i (0, 0)).1 ∧ six (zi i) (zs.getD i (0, 0)).2) (h3 : ∀ i, i < ts.length → six (t i) (ts.getD i 0)) :
    den ⟨fnOf, specL, L+1⟩ (n+1) 18 [.agg [.int .i64 r, .int .i64 fore, .lst 1 (ts.map celF)], .lst 1 (zs.map celC)] = some (.tup [.nils, .int .i64 7]) := by
  obtain ⟨l1, l2, l3, l4, l5, l6⟩ := len_nat hl
  have hc := spec_is (P := ⟨fnOf, specL, L+1⟩) (C := runF ⟨fnOf, specL, L+1⟩ n) (f := 13) rfl (lenSem_at (r : Int) fore ts (zs.length : Int))
  rw [hl] at hc
  have hkz : (zs.map celC).length = zs.length := map_len
  obtain ⟨s', g1, g2⟩ := loopI (P := ⟨fnOf, specL, L+1⟩) (C := runF ⟨fnOf, specL, L+1⟩ n) (L := L) (d := 0) (live := [2, 8, 25, 26, 27]) (π := [20]) (m := m18b1) (A := pshSt r fore ts zs (List.replicate mm (0, 0)) mm 0)
    (fun k s => ∃ o2, s = pshSt r fore ts zs o2 mm k ∧ good r ts.length mm zr zi t k 0 o2) (fun s => outS s m18.res = some (.tup [.nils, .int .i64 7])) k (x := .ret) (by simp) rfl (by omega)
    ⟨_, rfl, List.length_replicate, fun m hm => by
      have e : (List.replicate mm ((0, 0) : Nat × Nat)).getD m (0, 0) = (0, 0) := by
        rw [List.getD_eq_getElem?_getD, List.getElem?_replicate]; split <;> rfl
      rw [e]
      exact ⟨grid_zero0, grid_zero0⟩⟩
    (fun i s hi hs => by
      obtain ⟨o2, rfl, hg⟩ := hs
      have hp := hp i hi
      unfold ptOK at hp
      rw [Bool.and_eq_true] at hp
      obtain ⟨o3, hlp, hg2⟩ := @shape_row L n r mm fore ts zs zr zi t i (zs.getD i (0, 0)).1 (zs.getD i (0, 0)).2 [20] o2 hz hy ht (by omega) (by omega) l3 (l6 i (by omega)) l5 (h1 i hi).1 (h1 i hi).2 h3 hg
      have := @pshr_2 (L+1) n (r : Int) fore 0 ts [] [20] zs o2 o3 mm i 0 0 (zs.getD i (0, 0)).1 (zs.getD i (0, 0)).2 ts.length (zs.getD i (0, 0)) (by rw [hkz]; exact dLt (by omega)) (elD_map (f := celC) (by omega)) (by rw [hp.1]; rfl) (by rw [hp.2]; rfl) hlp
      rw [wrap_id (n := (i : Int) + 1) (by omega)] at this
      exact ⟨_, seeZ_go this, o3, rfl, hg2⟩)
    (fun s hs => by
      obtain ⟨o2, rfl, hg⟩ := hs
      unfold ptOK at hb
      cases c : plainF (zs.getD k (0, 0)).1 4638707616191610880 with
      | false =>
        have := @pshr_0 (L+1) n (r : Int) fore 0 ts [] [20] zs o2 [] mm k 0 0 0 0 0 (zs.getD k (0, 0)) (by rw [hkz]; exact dLt hk) (elD_map (f := celC) hk) (by rw [c]; rfl)
        obtain ⟨s', a, b⟩ := seeZ_out this
        exact ⟨s', a, b⟩
      | true =>
        rw [c, Bool.true_and] at hb
        have := @pshr_1 (L+1) n (r : Int) fore 0 ts [] [20] zs o2 [] mm k 0 0 0 0 0 (zs.getD k (0, 0)) (by rw [hkz]; exact dLt hk) (elD_map (f := celC) hk) (by rw [c]; rfl) (by rw [hb]; rfl)
        obtain ⟨s', a, b⟩ := seeZ_out this
        exact ⟨s', a, b⟩)
  have hmk : Con.holds ⟨fnOf, specL, L+1⟩ (runF ⟨fnOf, specL, L+1⟩ n) (.mk mm mm true ((List.replicate mm (0, 0)).map celC) (mm : Int) (mm : Int) 16 [.cpx 0 0]) := mk_ok (f := celC) rfl (by simp only [most]; omega) (by simp only [most]; omega)
  exact @psht_1 (L+1) n (r : Int) fore 0 ts [] [] zs [] [] mm 0 0 0 0 0 0 s' _ (mm : Int) 0 mm (by rw [hkz]; exact hc) rfl hmk g1 g2
end
end Go.Proofs.Ytaklelfdcbgebaa.Fw
