/- pulse.Shape: what it answers where all is well, by what stands on the grid. -/
import Derived.Test.YtaklelfdcbgebaaLwSpC
set_option maxRecDepth 100000
set_option maxHeartbeats 4000000
set_option linter.unusedSimpArgs false
set_option linter.unusedVariables false
set_option exponentiation.threshold 4000
namespace Go.Proofs.Ytaklelfdcbgebaa.Fw
open Go Go.RowKit
theorem grid_zero0 : grid 0 0 := ⟨six_zero.1, by rw [six_zero.2, Int.zero_mul, Int.zero_mul]⟩
section
variable {L n r mm : Nat} {fore : Int} {ts : List Nat} {zs : List (Nat × Nat)} {zr zi t : Nat → Int}
theorem len_nat {K : Nat} (h : lenF r fore ts K = ((mm : Int), 0)) : 1 ≤ r ∧ r ≤ 8 ∧ ts.length ≤ 64 ∧ K ≤ 65536 ∧ mm ≤ 65536 ∧ ∀ k, k < K → ∀ i, i < ts.length → k * r + i < mm := by
  obtain ⟨h1, h2, h3, h4⟩ := lenF_ok (rate := (r : Int)) (fore := fore) (ts := ts) (k := (K : Int)) (by rw [h])
  obtain ⟨r1, r2, _, _, r5, _⟩ := chkF_ok h1
  rw [h] at h4
  refine ⟨by omega, by omega, r5, by omega, ?_, fun k hk i hi => ?_⟩
  · rcases h4 with ⟨_, h4⟩ | ⟨_, h4, h5⟩
    · simp only at h4; omega
    · simp only at h4; omega
  · rcases h4 with ⟨h4, _⟩ | ⟨_, h4, h5⟩
    · omega
    · simp only at h4
      have e : ((K : Int) - 1) * (r : Int) = (((K - 1) * r : Nat) : Int) := by rw [Int.natCast_mul]; congr 1; omega
      rw [e] at h4
      have q : k * r ≤ (K - 1) * r := Nat.mul_le_mul_right _ (by omega)
      generalize (K - 1) * r = a at *
      generalize k * r = b at *
      omega
theorem shape_den (hz : ∀ k, (zr k).natAbs ≤ 8192) (hy : ∀ k, (zi k).natAbs ≤ 8192) (ht : ∀ i, (t i).natAbs ≤ 8192) (hL : 65536 ≤ L)
    (hl : lenF r fore ts zs.length = ((mm : Int), 0)) (hp : ∀ k, k < zs.length → plainF (zs.getD k (0, 0)).1 4638707616191610880 = true ∧ plainF (zs.getD k (0, 0)).2 4638707616191610880 = true)
    (h1 : ∀ k, k < zs.length → six (zr k) (zs.getD k (0, 0)).1 ∧ six (zi k) (zs.getD k (0, 0)).2) (h3 : ∀ i, i < ts.length → six (t i) (ts.getD i 0)) :
    ∃ out, den ⟨fnOf, specL, L+1⟩ (n+1) 18 [.agg [.int .i64 r, .int .i64 fore, .lst 1 (ts.map celF)], .lst 1 (zs.map celC)] = some (.tup [.own 1 (out.map celC) true, .int .i64 0]) ∧ good r ts.length mm zr zi t zs.length 0 out := by
  obtain ⟨l1, l2, l3, l4, l5, l6⟩ := len_nat hl
  have hc := spec_is (P := ⟨fnOf, specL, L+1⟩) (C := runF ⟨fnOf, specL, L+1⟩ n) (f := 13) rfl (lenSem_at (r : Int) fore ts (zs.length : Int))
  rw [hl] at hc
  have hkz : (zs.map celC).length = zs.length := map_len
  obtain ⟨s', g1, out, rfl, g2⟩ := loopI (P := ⟨fnOf, specL, L+1⟩) (C := runF ⟨fnOf, specL, L+1⟩ n) (L := L) (d := 0) (live := [2, 8, 25, 26, 27]) (π := [20]) (m := m18b1) (A := pshSt r fore ts zs (List.replicate mm (0, 0)) mm 0)
    (fun k s => ∃ o2, s = pshSt r fore ts zs o2 mm k ∧ good r ts.length mm zr zi t k 0 o2) (fun s => ∃ o2, s = pshSt r fore ts zs o2 mm zs.length ∧ good r ts.length mm zr zi t zs.length 0 o2) zs.length (x := .exit 0) (by simp) rfl (by omega)
    ⟨_, rfl, List.length_replicate, fun m hm => by
      have e : (List.replicate mm ((0, 0) : Nat × Nat)).getD m (0, 0) = (0, 0) := by
        rw [List.getD_eq_getElem?_getD, List.getElem?_replicate]; split <;> rfl
      rw [e]
      exact ⟨grid_zero0, grid_zero0⟩⟩
    (fun k s hk hs => by
      obtain ⟨o2, rfl, hg⟩ := hs
      obtain ⟨o3, hlp, hg2⟩ := @shape_row L n r mm fore ts zs zr zi t k (zs.getD k (0, 0)).1 (zs.getD k (0, 0)).2 [20] o2 hz hy ht (by omega) (by omega) l3 (l6 k hk) l5 (h1 k hk).1 (h1 k hk).2 h3 hg
      have := @pshr_2 (L+1) n (r : Int) fore 0 ts [] [20] zs o2 o3 mm k 0 0 (zs.getD k (0, 0)).1 (zs.getD k (0, 0)).2 ts.length (zs.getD k (0, 0)) (by rw [hkz]; exact dLt hk) (elD_map (f := celC) hk) (by rw [(hp k hk).1]; rfl) (by rw [(hp k hk).2]; rfl) hlp
      rw [wrap_id (n := (k : Int) + 1) (by omega)] at this
      exact ⟨_, seeZ_go this, o3, rfl, hg2⟩)
    (fun s hs => by
      obtain ⟨o2, rfl, hg⟩ := hs
      exact ⟨_, seeZ_go (@pshr_3 (L+1) n (r : Int) fore 0 ts [] [20] zs o2 [] mm zs.length 0 0 0 0 0 (by rw [hkz]; exact dNlt)), o2, rfl, hg⟩)
  have hmk : Con.holds ⟨fnOf, specL, L+1⟩ (runF ⟨fnOf, specL, L+1⟩ n) (.mk mm mm true ((List.replicate mm (0, 0)).map celC) (mm : Int) (mm : Int) 16 [.cpx 0 0]) := mk_ok (f := celC) rfl (by simp only [most]; omega) (by simp only [most]; omega)
  have := @psh_1 (L+1) n (r : Int) fore 0 ts [] [] zs out [] mm zs.length 0 0 0 0 0 (mm : Int) 0 mm (by rw [hkz]; exact hc) rfl hmk g1 (by show _ ≤ _; rw [show List.length _ = _ from map_len, g2.1]; exact Nat.le_refl _)
  exact ⟨out, by rw [this, takeMap g2.1.symm], g2⟩
end
end Go.Proofs.Ytaklelfdcbgebaa.Fw
