/- The document's Shape, where all is well; both answers are the same. -/
import Derived.Test.YtaklelfdcbgebaaLwSpE
set_option maxRecDepth 100000
set_option maxHeartbeats 4000000
set_option linter.unusedSimpArgs false
set_option linter.unusedVariables false
set_option exponentiation.threshold 4000
namespace Go.Proofs.Ytaklelfdcbgebaa.Fw
open Go Go.RowKit
section
variable {L n r mm : Nat} {fore : Int} {ts : List Nat} {zs : List (Nat × Nat)} {zr zi t : Nat → Int}
def docGood (r T K : Nat) (zr zi t : Nat → Int) (out : List (Nat × Nat)) : Prop := ∀ m, m < out.length → grid (accD r K zr t m T) (out.getD m (0, 0)).1 ∧ grid (accD r K zi t m T) (out.getD m (0, 0)).2
theorem docGood_up {r T K re im : Nat} {out : List (Nat × Nat)} (h : docGood r T K zr zi t out) (h1 : grid (accD r K zr t out.length T) re) (h2 : grid (accD r K zi t out.length T) im) : docGood r T K zr zi t (out ++ [(re, im)]) := by
  intro m hm
  rw [List.length_append, List.length_singleton] at hm
  rw [List.getD_eq_getElem?_getD]
  by_cases e : m = out.length
  · subst e; rw [List.getElem?_append_right (Nat.le_refl _), Nat.sub_self]; exact ⟨h1, h2⟩
  · rw [List.getElem?_append_left (by omega), ← List.getD_eq_getElem?_getD]; exact h m (by omega)
theorem doc_den (hz : ∀ k, (zr k).natAbs ≤ 8192) (hy : ∀ k, (zi k).natAbs ≤ 8192) (ht : ∀ i, (t i).natAbs ≤ 8192) (hL : 65536 ≤ L)
    (hl : lenF r fore ts zs.length = ((mm : Int), 0)) (hR : Con.holds ⟨fnOf, specL, L+1⟩ (runF ⟨fnOf, specL, L+1⟩ n) (.call 37 [.lst 1 (zs.map celC)] (.v (.bool true))))
    (h1 : ∀ k, k < zs.length → six (zr k) (zs.getD k (0, 0)).1 ∧ six (zi k) (zs.getD k (0, 0)).2) (h3 : ∀ i, i < ts.length → six (t i) (ts.getD i 0)) :
    ∃ out, den ⟨fnOf, specL, L+1⟩ (n+1) 19 [.agg [.int .i64 r, .int .i64 fore, .lst 1 (ts.map celF)], .lst 1 (zs.map celC)] = some (.tup [.own 1 (out.map celC) true, .int .i64 0]) ∧ out.length = mm ∧ docGood r ts.length zs.length zr zi t out := by
  obtain ⟨l1, l2, l3, l4, l5, l6⟩ := len_nat hl
  have hc := spec_is (P := ⟨fnOf, specL, L+1⟩) (C := runF ⟨fnOf, specL, L+1⟩ n) (f := 14) rfl (lenSem_at (r : Int) fore ts (zs.length : Int))
  rw [hl] at hc
  have hkz : (zs.map celC).length = zs.length := map_len
  obtain ⟨s', g1, out, st, rfl, g2, g3⟩ := loopI (P := ⟨fnOf, specL, L+1⟩) (C := runF ⟨fnOf, specL, L+1⟩ n) (L := L) (d := 0) (live := [1, 2, 6, 8, 9]) (π := [19]) (m := m19b1) (A := psdSt r fore ts zs [] [19] 0 mm 0)
    (fun m s => ∃ o2 st, s = psdSt r fore ts zs o2 st m mm m ∧ o2.length = m ∧ docGood r ts.length zs.length zr zi t o2) (fun s => ∃ o2 st, s = psdSt r fore ts zs o2 st mm mm mm ∧ o2.length = mm ∧ docGood r ts.length zs.length zr zi t o2) mm (x := .exit 0) (by simp) rfl (by omega)
    ⟨[], [19], rfl, rfl, fun m hm => absurd hm (Nat.not_lt_zero _)⟩
    (fun m s hm hs => by
      obtain ⟨o2, st, rfl, hg, hd⟩ := hs
      obtain ⟨re, im, hlp, ga, gb⟩ := @doc_sum L n r mm fore ts st zs o2 zr zi t m m [19] hz hy ht (by omega) l1 l3 (by omega) l4 h1 h3
      have hp : Con.holds ⟨fnOf, specL, L+1⟩ (runF ⟨fnOf, specL, L+1⟩ n) (.push m 1 16 (o2.map celC)) := push_ok (by rw [map_len, hg]) (by simp only [most]; omega)
      have := @psdr_0 (L+1) n (r : Int) fore mm ts st [19] zs o2 [] 0 0 m m re im ts.length (dLt hm) hlp hp
      rw [wrap_id (n := (m : Int) + 1) (by omega)] at this
      refine ⟨_, this, o2 ++ [(re, im)], [12, m, 19], ?_, by rw [List.length_append, hg]; rfl, docGood_up hd (by rw [hg]; exact ga) (by rw [hg]; exact gb)⟩
      unfold psdSt
      rw [List.map_append]
      rfl)
    (fun s hs => by
      obtain ⟨o2, st, rfl, hg, hd⟩ := hs
      exact ⟨_, @psdr_1 (L+1) n (r : Int) fore mm ts st [19] zs o2 [] 0 0 mm mm 0 0 0 dNlt, o2, st, rfl, hg, hd⟩)
  have := @psd_2 (L+1) n (r : Int) fore mm ts st [] zs out [] 0 0 mm mm 0 0 0 (mm : Int) 0 true (by rw [hkz]; exact hc) rfl hR rfl g1 (by show _ ≤ _; rw [show List.length _ = _ from map_len, g2]; exact Nat.le_refl _)
  exact ⟨out, by rw [this, takeMap g2.symm], g2, g3⟩
/-- the answers of both are the same, one by one -/
theorem shapes_same {a c : List (Nat × Nat)} (hr : 1 ≤ r) (ha : good r ts.length mm zr zi t zs.length 0 a) (hc : c.length = mm) (hd : docGood r ts.length zs.length zr zi t c) {m : Nat} (hm : m < mm) :
    feq (a.getD m (0, 0)).1 (c.getD m (0, 0)).1 = true ∧ feq (a.getD m (0, 0)).2 (c.getD m (0, 0)).2 = true := by
  obtain ⟨a1, a2⟩ := ha.2 m hm
  obtain ⟨c1, c2⟩ := hd m (by omega)
  rw [acc_same (by omega)] at a1 a2
  rw [grid_eq a1 c1, grid_eq a2 c2]
  exact ⟨decide_eq_true rfl, decide_eq_true rfl⟩
end
end Go.Proofs.Ytaklelfdcbgebaa.Fw
