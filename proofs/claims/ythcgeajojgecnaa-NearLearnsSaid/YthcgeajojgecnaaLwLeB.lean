/- NearLearns: samples, rows alike, the law's own run. -/
import Derived.Test.YthcgeajojgecnaaLwLeA
set_option maxRecDepth 100000
set_option maxHeartbeats 4000000
set_option linter.unusedSimpArgs false
set_option linter.unusedVariables false
namespace Go.Proofs.Ythcgeajojgecnaa.Fw
open Go Go.RowKit
section
variable {L n : Nat}
theorem samples15_den {ps : List ((Nat × Nat) × Bool)} (hl : ps.length * 24 ≤ 140737488351232) (hL : ps.length ≤ L) : den ⟨fnOf, specX, L+1⟩ (n+1) 60 [.lst 3 (ps.map celP)] = some (.own 2 (ps.map celS) true) := by
  have pl : (ps.map celP).length = ps.length := map_len
  obtain ⟨s', q1, st, rfl⟩ := loopJ (P := ⟨fnOf, specX, L+1⟩) (C := runF ⟨fnOf, specX, L+1⟩ n) (L := L) (d := 0) (live := [0, 3, 4]) (π := [3]) (m := m60b0) (A := smSt ps [] [3] 0 0) (x := .exit 0)
    (fun i s => ∃ st, s = smSt ps (ps.take i) st i i) (fun s => ∃ st, s = smSt ps ps st ps.length ps.length) ps.length (by simp) rfl hL ⟨[3], rfl⟩ (fun i s hi hst => by
      obtain ⟨st, rfl⟩ := hst
      have d : Con.holds ⟨fnOf, specX, L+1⟩ (runF ⟨fnOf, specX, L+1⟩ n) (.el (ps.map celP) (.int .i64 i) [.flt (ps.getD i ((0, 0), false)).1.1, .flt (ps.getD i ((0, 0), false)).1.2, .v (.bool (ps.getD i ((0, 0), false)).2)]) := elD_map (f := celP) hi
      have hp : Con.holds ⟨fnOf, specX, L+1⟩ (runF ⟨fnOf, specX, L+1⟩ n) (.push i 1 24 ((ps.take i).map celS)) := push_ok (by rw [map_len, List.length_take]; omega) (by simp only [most]; omega)
      have := @lsn_0 (L+1) n 0 0 0 0 0 ps (ps.take i) [] [] 0 0 0 i i st [3] (ps.getD i ((0, 0), false)) (ps.getD i ((0, 0), false)) (ps.getD i ((0, 0), false)) (by rw [pl]; exact dLt hi) d d d hp
      rw [wrapUp hi (by omega)] at this
      refine ⟨_, this, [23, i, 3], ?_⟩
      have e : (ps.take (i + 1)).map celS = (ps.take i).map celS ++ [[.cpx (ps.getD i ((0, 0), false)).1.1 (ps.getD i ((0, 0), false)).1.2, .v (.bool (ps.getD i ((0, 0), false)).2)]] := by
        rw [mapTake_up hi]
        have : ps.getD i ((0, 0), false) = ps[i] := by rw [List.getD_eq_getElem?_getD, List.getElem?_eq_getElem hi]; rfl
        rw [this]; rfl
      unfold smSt
      rw [e]
      rfl) (fun s hst => by
      obtain ⟨st, rfl⟩ := hst
      rw [List.take_length]
      exact ⟨_, @lsn_1 (L+1) n 0 0 0 0 0 ps ps [] [] 0 0 0 ps.length ps.length st [3] (by rw [pl]; exact dNlt), st, rfl⟩)
  have := @lsm_0 (L+1) n 0 0 0 0 0 ps ps [] [] 0 0 0 ps.length ps.length st [] q1 (by show _ ≤ _; rw [show List.length _ = _ from map_len]; exact Nat.le_refl _)
  rw [tkMap rfl] at this
  exact this
theorem part_den {x y : Nat} (h : feq x y = true) : den ⟨fnOf, specX, L⟩ (n+1) 92 [.flt x, .flt y, .v (.bool false)] = some (.v (.bool true)) := by
  have hx : feq x x = true := by
    rw [feq_rk] at h ⊢
    simp only [Bool.and_eq_true] at h ⊢
    exact ⟨⟨h.1.1, h.1.1⟩, by trivial⟩
  have hy : feq y y = true := by
    rw [feq_rk] at h ⊢
    simp only [Bool.and_eq_true] at h ⊢
    exact ⟨⟨h.1.2, h.1.2⟩, by trivial⟩
  exact @lpt_4 L n 0 0 0 0 0 [] [] [] [] x y 0 0 0 [] [] (by rw [hx]; rfl) (by rw [hy]; rfl) h
theorem same03_den {x w y c : Nat} (h1 : feq x y = true) (h2 : feq w c = true) : den ⟨fnOf, specX, L⟩ (n+2) 58 [.cpx x w, .cpx y c, .v (.bool false)] = some (.v (.bool true)) :=
  @lsa_0 L (n+1) 0 0 0 0 0 [] [] [] [] x y c 0 w [] [] true true (call_den (part_den h1)) rfl (call_den (part_den h2))
theorem row03_den {us vs : List (Nat × Nat)} (hl : us.length = vs.length) (hL : us.length ≤ L) (hm : us.length ≤ 17592186044415)
    (h : ∀ i, i < us.length → feq (us.getD i (0, 0)).1 (vs.getD i (0, 0)).1 = true ∧ feq (us.getD i (0, 0)).2 (vs.getD i (0, 0)).2 = true) :
    den ⟨fnOf, specX, L+1⟩ (n+3) 64 [.lst 1 (us.map celC), .lst 1 (vs.map celC)] = some (.v (.bool true)) := by
  have hu : (us.map celC).length = us.length := map_len
  have hv : (vs.map celC).length = vs.length := map_len
  refine @lsr_1 (L+1) (n+2) 0 0 0 0 0 [] [] us vs 0 0 0 us.length 0 [] [] (by rw [hu, hv, hl]; simp) ?_
  refine loopX (res := m64.res) (fun i => lsrSt us vs i) us.length rfl hL (fun i hi => ?_) ?_ (by simp)
  · have := @lsq_1 (L+1) (n+2) 0 0 0 0 0 [] [] us vs 0 0 0 i 0 [] [7] (us.getD i (0, 0)) (vs.getD i (0, 0)) true (by rw [hu]; exact dLt hi) (elD_map (f := celC) hi) (elD_map (f := celC) (by omega)) (call_den (same03_den (h i hi).1 (h i hi).2)) rfl
    rw [wrapUp hi (by omega)] at this
    exact this
  · exact @lsq_2 (L+1) (n+2) 0 0 0 0 0 [] [] us vs 0 0 0 us.length 0 [] [7] (by rw [hu]; exact dNlt)
theorem row03_nil : den ⟨fnOf, specX, L+1⟩ (n+1) 64 [.nils, .nils] = some (.v (.bool true)) := by kernel_rfl
theorem law_learns {o r g a m : Int} {ps : List ((Nat × Nat) × Bool)} (hl : ps.length * 24 ≤ 140737488351232) (hL : ps.length + 100 ≤ L) :
    den ⟨fnOf, specX, L+1⟩ (n+4) 12 [.agg [.int .i64 o, .int .i64 r, .int .i64 g, .int .i64 a, .int .i64 m], .lst 3 (ps.map celP)] = some (.v (.bool true)) := by
  have hs := call_den (@samples15_den L (n+2) ps hl (by omega))
  have cz : cutX (ps.map celS) 0 (List.length (ps.map celS)) = ps.map celS := cutAll
  have hcat : Con.holds ⟨fnOf, specX, L+1⟩ (runF ⟨fnOf, specX, L+1⟩ (n+3)) (.cat 2 24 true (cutX (ps.map celS) 0 (List.length (ps.map celS)))) := by
    rw [cz]; exact catS_ok (by simp only [most]; omega)
  by_cases hr : r = 1
  · subst hr
    have h1 : (((1 : Int) != 1)) = false := rfl
    have hp := spec_is (P := ⟨fnOf, specX, L+1⟩) (C := runF ⟨fnOf, specX, L+1⟩ (n+2)) (f := 37) rfl (tapSem_at false o 1 g ps a m)
    have hd := spec_is (P := ⟨fnOf, specX, L+1⟩) (C := runF ⟨fnOf, specX, L+1⟩ (n+2)) (f := 36) rfl (tapSem_at true o 1 g ps a m)
    rw [if_neg (by decide)] at hp
    rw [if_pos rfl] at hd
    obtain ⟨s1, s2, s3⟩ := taps_same o 1 g ps a m
    generalize tapW o 1 g ps a m = w at *
    obtain ⟨us, vs⟩ := w
    have p := @len_1 (L+1) (n+2) o 1 g a m [] ps [] [] 0 0 0 0 0 [] [] us _ h1 hp leSelf
    have q := @led_1 (L+1) (n+2) o 1 g a m [] ps [] [] 0 0 0 0 0 [] [] vs _ h1 hd leSelf
    rw [tkMap map_len] at p q
    have row := @row03_den L n us vs s1 (by have : us.length ≤ 64 := s2; omega) (by have : us.length ≤ 64 := s2; omega) s3
    have cu : cutX (us.map celC) 0 (List.length (us.map celC)) = us.map celC := cutAll
    have cv : cutX (vs.map celC) 0 (List.length (vs.map celC)) = vs.map celC := cutAll
    exact @lew_0 (L+1) (n+3) o 1 g a m ps [] [] [] 0 0 0 0 0 [] [] ps us _ vs _ true hs hcat leOut (by rw [cz, cz]; exact call_den p) leOut (by rw [cz]; exact call_den q) beqSame (by rw [cu, cv]; exact call_den row) leOut leOut rfl
  · have h1 : (r != 1) = true := by simpa using hr
    have p := @len_0 (L+1) (n+2) o r g a m [] ps [] [] 0 0 0 0 0 [] [] h1
    have q := @led_0 (L+1) (n+2) o r g a m [] ps [] [] 0 0 0 0 0 [] [] h1
    exact @lev_0 (L+1) (n+3) o r g a m ps [] [] [] 0 0 0 0 0 [] [] ps true hs hcat leOut (by rw [cz, cz]; exact call_den p) leOut (by rw [cz]; exact call_den q) (call_den row03_nil) rfl
end
end Go.Proofs.Ythcgeajojgecnaa.Fw
