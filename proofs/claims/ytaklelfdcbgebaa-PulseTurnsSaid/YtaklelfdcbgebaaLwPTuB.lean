/- PulseTurns: turned about, stretched; the law's own run. -/
import Derived.Test.YtaklelfdcbgebaaLwPTuP
import Derived.Test.YtaklelfdcbgebaaLwPTuA
set_option maxRecDepth 100000
set_option maxHeartbeats 4000000
set_option exponentiation.threshold 4000
set_option linter.unusedSimpArgs false
set_option linter.unusedVariables false
namespace Go.Proofs.Ytaklelfdcbgebaa.Fw
open Go Go.RowKit
section
variable {L n : Nat} {rate fore att m : Int} {xs ps : List Int} {odd : Nat}
theorem law_turns (hm : xs.length ≤ 17592186044415) (hL : 70000 ≤ L) :
    den ⟨fnOf, specB, L+1⟩ (n+2) 11 [.agg [.int .i64 rate, .int .i64 fore, .lst 1 (xs.map celI), .flt odd, .int .i64 att], .lst 1 (ps.map celI), .int .i64 m] = some (.v (.bool true)) := by
  obtain ⟨r, f, ts, t, d1, hf⟩ := @fit_den L n rate fore att xs odd hm (by omega)
  have d2 := @plain_den L n ps 100 (by omega) (by omega)
  generalize hKe : min (ps.length / 2) 100 = K at d2
  have hK : K ≤ 100 := by omega
  obtain ⟨zs, hzs⟩ : ∃ zs, zs = tab (plZ ps) K := ⟨_, rfl⟩
  rw [← hzs] at d2
  have zl : zs.length = K := by rw [hzs, tab_len]
  have zml : (zs.map celC).length = K := by rw [map_len, zl]
  have z6 : ∀ k, k < K → six (zR ps k) (zs.getD k (0, 0)).1 ∧ six (zI ps k) (zs.getD k (0, 0)).2 := fun k hk => by rw [hzs, tab_at (by omega)]; exact plZ_six ps k
  have zb := z_small ps
  have hc := fit_chk hf
  obtain ⟨r1, r8, f1, f2, f3, f4, f5, f6, f7⟩ := id hf
  have tml : (ts.map celF).length = ts.length := map_len
  obtain ⟨q8, eq8, q1, q2⟩ : ∃ q : Nat, IntKind.wrap .i64 (Int.tdiv 8 (r : Int)) = (q : Int) ∧ 1 ≤ q ∧ r * q ≤ 8 := by
    have e : Int.tdiv 8 (r : Int) = ((8 / r : Nat) : Int) := (Int.ofNat_tdiv 8 r).symm
    rw [e]
    have h1 : 8 / r ≤ 8 := Nat.div_le_self _ _
    have h2 : 1 ≤ 8 / r := (Nat.le_div_iff_mul_le (by omega)).2 (by omega)
    have h3 : r * (8 / r) ≤ 8 := Nat.mul_div_le _ _
    generalize 8 / r = q at *
    exact ⟨q, wrap_id (by omega), h2, h3⟩
  have q88 : q8 ≤ 8 := by
    have : 1 * q8 ≤ r * q8 := Nat.mul_le_mul_right _ r1
    omega
  obtain ⟨M, eM, M1, M2⟩ : ∃ M : Nat, IntKind.wrap .i64 (1 + IntKind.wrap .i64 ((IntKind.wrap .u64 m).tmod (IntKind.wrap .u64 (IntKind.wrap .i64 (Int.tdiv 8 (r : Int)))))) = (M : Int) ∧ 1 ≤ M ∧ M ≤ q8 := by
    rw [eq8, wrapU_id (by omega)]
    have h1 := tmod_le7 (IntKind.wrap .u64 m) (m := (q8 : Int)) (by omega)
    have h2 : 0 ≤ (IntKind.wrap .u64 m).tmod (q8 : Int) := Int.tmod_nonneg _ (wrapU m)
    generalize (IntKind.wrap .u64 m).tmod (q8 : Int) = q at *
    rw [wrap_id (n := q) (by omega), wrap_id (by omega)]
    exact ⟨(1 + q).toNat, by omega, by omega, by omega⟩
  have rM : r * M ≤ 8 := Nat.le_trans (Nat.mul_le_mul_left _ M2) q2
  -- the row turned about
  let aF : Nat → Nat × Nat := fun k => zs.getD (K - 1 - k) (0, 0)
  obtain ⟨s', q3, st, rfl⟩ := loopJ (P := ⟨fnOf, specB, L+1⟩) (C := runF ⟨fnOf, specB, L+1⟩ (n+1)) (L := L) (d := 0) (live := [2, 7, 8, 9, 10]) (π := [26]) (m := m11b2) (A := pt2St M r f ts zs [] [26] 0 ((K : Int) - 1 - (0 : Nat))) (x := .exit 0)
    (fun i s => ∃ st, s = pt2St M r f ts zs (tab aF i) st i ((K : Int) - 1 - i)) (fun s => ∃ st, s = pt2St M r f ts zs (tab aF K) st K ((K : Int) - 1 - K)) K (by simp) rfl (by omega) ⟨[26], rfl⟩ (fun j s hj hst => by
      obtain ⟨st, rfl⟩ := hst
      have e : (K : Int) - 1 - (j : Int) = ((K - 1 - j : Nat) : Int) := by omega
      have hzx : Con.holds ⟨fnOf, specB, L+1⟩ (runF ⟨fnOf, specB, L+1⟩ (n+1)) (.ix (.int .i64 ((K : Int) - 1 - (j : Int))) (List.length (zs.map celC)) (K - 1 - j)) := by rw [e, show List.length (zs.map celC) = K from zml]; exact ix_at (by omega)
      have hza : Con.holds ⟨fnOf, specB, L+1⟩ (runF ⟨fnOf, specB, L+1⟩ (n+1)) (.at (zs.map celC) (0 + (K - 1 - j)) [.cpx (zs.getD (K - 1 - j) (0, 0)).1 (zs.getD (K - 1 - j) (0, 0)).2]) := by rw [Nat.zero_add]; exact atD_map (f := celC) (by omega)
      have p1 : Con.holds ⟨fnOf, specB, L+1⟩ (runF ⟨fnOf, specB, L+1⟩ (n+1)) (.push j 1 16 ((tab aF j).map celC)) := push_ok (by rw [map_len, tab_len]) (by simp only [most]; omega)
      have := @pt2_0 (L+1) (n+1) r 0 0 M ((K : Int) - 1 - (j : Int)) f 0 0 [] [] [] ts zs [] [] (tab aF j) [] 0 0 0 j j 0 st [26] (K - 1 - j) (zs.getD (K - 1 - j) (0, 0)) (dT (by omega)) hzx hza p1
      have w : IntKind.wrap .i64 ((K : Int) - 1 - (j : Int) - 1) = (K : Int) - 1 - ((j + 1 : Nat) : Int) := by rw [wrap_id (by omega)]; omega
      have e1 : (tab aF j).map celC ++ [[.cpx (zs.getD (K - 1 - j) (0, 0)).1 (zs.getD (K - 1 - j) (0, 0)).2]] = (tab aF (j + 1)).map celC := by rw [tab_up, List.map_append]; rfl
      rw [w, e1] at this
      exact ⟨_, this, [8, j, 26], rfl⟩) (fun s hst => by
      obtain ⟨st, rfl⟩ := hst
      exact ⟨_, @pt2_1 (L+1) (n+1) r 0 0 M ((K : Int) - 1 - (K : Int)) f 0 0 [] [] [] ts zs [] [] (tab aF K) [] 0 0 0 K K 0 st [26] (dF (by omega)), st, rfl⟩)
  -- the shapes
  have hfr := fit_rev hf
  obtain ⟨us, h1, l1, g1⟩ := @shape_fit (L+1) r f t (zR ps) (zI ps) ts (runF ⟨fnOf, specB, L+1⟩ (n+1)) zs hf (by omega) (fun k => by have := zb k; omega) (fun k => by have := zb k; omega) (fun k hk => z6 k (by omega))
  obtain ⟨vs, h2, l2, g2⟩ := @shape_fit (L+1) r (ts.length - 1 - f) (fun i => t (ts.length - 1 - i)) (fun k => zR ps (K - 1 - k)) (fun k => zI ps (K - 1 - k)) ts.reverse (runF ⟨fnOf, specB, L+1⟩ (n+1)) (tab aF K) hfr (by rw [tab_len]; omega) (fun k => by have := zb (K - 1 - k); show (zR ps (K - 1 - k)).natAbs ≤ 8192; omega) (fun k => by have := zb (K - 1 - k); show (zI ps (K - 1 - k)).natAbs ≤ 8192; omega) (fun k hk => by
    rw [tab_len] at hk
    rw [tab_at hk]
    exact z6 (K - 1 - k) (by omega))
  rw [zl] at l1 g1
  rw [tab_len, List.length_reverse] at l2 g2
  have hsh : shLen r ts.length K = if K = 0 then 0 else (K - 1) * r + ts.length := rfl
  have hshb : shLen r ts.length K ≤ 4000 := by
    rw [hsh]
    split
    · omega
    · have : (K - 1) * r ≤ 99 * 8 := Nat.mul_le_mul (by omega) r8
      omega
  have hKM : K ≠ 0 → shLen r ts.length K = (K - 1) * r + ts.length := fun h => by rw [hsh, if_neg h]
  generalize hN : shLen r ts.length K = N at *
  have m1 : (us.map celC).length = N := by rw [map_len, l1]
  have m2 : (vs.map celC).length = N := by rw [map_len, l2]
  have K0 : ∀ i, i < N → K ≠ 0 := fun i hi h0 => by rw [← hN] at hi; unfold shLen at hi; rw [if_pos h0] at hi; omega
  have q4 : Con.holds ⟨fnOf, specB, L+1⟩ (runF ⟨fnOf, specB, L+1⟩ (n+1)) (.loop 0 [2, 7, 8, 11, 15, 17] m11b1 [74] (pt1St M r f ts zs us vs 0) (.exit 2) (pt1St M r f ts zs us vs N)) := by
    refine loopX (res := m11.res) (fun i => pt1St M r f ts zs us vs i) N rfl (by omega) (fun i hi => ?_) ?_ (by simp)
    · have eN := hKM (K0 i hi)
      obtain ⟨a1, b1⟩ := g1 i hi
      obtain ⟨a2, b2⟩ := g2 (N - 1 - i) (by omega)
      rw [eN] at a2 b2
      rw [acc_rev (by omega)] at a2 b2
      rw [← eN] at a2 b2
      have e1 : feq (us.getD i (0, 0)).1 (vs.getD (N - 1 - i) (0, 0)).1 = true := by rw [grid_eq a1 a2]; exact decide_eq_true rfl
      have e2 : feq (us.getD i (0, 0)).2 (vs.getD (N - 1 - i) (0, 0)).2 = true := by rw [grid_eq b1 b2]; exact decide_eq_true rfl
      have w1 : IntKind.wrap .i64 (IntKind.wrap .i64 (((vs.map celC).length : Int) - 1) - (i : Int)) = ((N - 1 - i : Nat) : Int) := by
        rw [m2, wrap_id (n := (N : Int) - 1) (by omega), wrap_id (by omega)]; omega
      have hix : Con.holds ⟨fnOf, specB, L+1⟩ (runF ⟨fnOf, specB, L+1⟩ (n+1)) (.ix (.int .i64 i) (List.length (us.map celC)) i) := by rw [show List.length (us.map celC) = N from m1]; exact ix_at hi
      have hat : Con.holds ⟨fnOf, specB, L+1⟩ (runF ⟨fnOf, specB, L+1⟩ (n+1)) (.at (us.map celC) (0 + i) [.cpx (us.getD i (0, 0)).1 (us.getD i (0, 0)).2]) := by rw [Nat.zero_add]; exact atD_map (f := celC) (by omega)
      have hvx : Con.holds ⟨fnOf, specB, L+1⟩ (runF ⟨fnOf, specB, L+1⟩ (n+1)) (.ix (.int .i64 (IntKind.wrap .i64 (IntKind.wrap .i64 (((vs.map celC).length : Int) - 1) - (i : Int)))) (List.length (vs.map celC)) (N - 1 - i)) := by rw [w1, show List.length (vs.map celC) = N from m2]; exact ix_at (by omega)
      have hva : Con.holds ⟨fnOf, specB, L+1⟩ (runF ⟨fnOf, specB, L+1⟩ (n+1)) (.at (vs.map celC) (0 + (N - 1 - i)) [.cpx (vs.getD (N - 1 - i) (0, 0)).1 (vs.getD (N - 1 - i) (0, 0)).2]) := by rw [Nat.zero_add]; exact atD_map (f := celC) (by omega)
      have := @pt1_1 (L+1) (n+1) r 0 0 M 0 f 0 0 [] [] [] ts zs us vs [] [] 0 0 0 i 0 0 [] [74] i (us.getD i (0, 0)) (N - 1 - i) (vs.getD (N - 1 - i) (0, 0)) (by rw [m1]; exact dLt hi) hix hat hvx hva (by rw [e1, e2]; rfl)
      rw [wrapUp hi (by omega)] at this
      exact this
    · exact @pt1_2 (L+1) (n+1) r 0 0 M 0 f 0 0 [] [] [] ts zs us vs [] [] 0 0 0 N 0 0 [] [74] (by rw [m1]; exact dNlt)
  have ct : cutX (ts.map celF) 0 (List.length (ts.map celF)) = ts.map celF := cutAll
  have ctr : cutX (ts.reverse.map celF) 0 (List.length (ts.reverse.map celF)) = ts.reverse.map celF := cutAll
  have cz : cutX (zs.map celC) 0 (List.length (zs.map celC)) = zs.map celC := cutAll
  have ca : cutX ((tab aF K).map celC) 0 K = (tab aF K).map celC := tkMap tab_len.symm
  have leA : Con.holds ⟨fnOf, specB, L+1⟩ (runF ⟨fnOf, specB, L+1⟩ (n+1)) (.le (0 + K) (List.length ((tab aF K).map celC))) := by show _ ≤ _; rw [show List.length ((tab aF K).map celC) = _ from map_len, tab_len]; omega
  have trn := spec_is (P := ⟨fnOf, specB, L+1⟩) (C := runF ⟨fnOf, specB, L+1⟩ (n+1)) (f := 24) rfl (trnSem_at (r : Int) (f : Int) ts)
  have etr : trnA (r : Int) (f : Int) ts = .tup [.agg [.int .i64 r, .int .i64 ((ts.length - 1 - f : Nat) : Int), .own 1 (ts.reverse.map celF) true], .int .i64 0] := by
    unfold trnA trnF trnL pulA
    rw [if_pos hc, if_pos hc]
    show AV.tup [.agg [.int .i64 r, .int .i64 ((ts.length : Int) - 1 - f), .own 1 (ts.reverse.map celF) true], .int .i64 0] = _
    rw [show (ts.length : Int) - 1 - (f : Int) = ((ts.length - 1 - f : Nat) : Int) by omega]
  rw [etr] at trn
  have hck2 := spec_is (P := ⟨fnOf, specB, L+1⟩) (C := runF ⟨fnOf, specB, L+1⟩ (n+1)) (f := 28) rfl (chkSem_at (r : Int) ((ts.length - 1 - f : Nat) : Int) ts.reverse)
  rw [fit_chk hfr] at hck2
  have str := spec_is (P := ⟨fnOf, specB, L+1⟩) (C := runF ⟨fnOf, specB, L+1⟩ (n+1)) (f := 26) rfl (strSem_at (r : Int) (f : Int) ts (M : Int))
  have eTM : ((ts.length : Int) - 1) * (M : Int) = (((ts.length - 1) * M : Nat) : Int) := by rw [Int.natCast_mul]; congr 1; omega
  have erM : (r : Int) * (M : Int) = ((r * M : Nat) : Int) := by rw [Int.natCast_mul]
  have efM : (f : Int) * (M : Int) = ((f * M : Nat) : Int) := by rw [Int.natCast_mul]
  have hTM : (ts.length - 1) * M ≤ 63 * 8 := Nat.mul_le_mul (by omega) (by omega)
  have nz1 : Con.holds ⟨fnOf, specB, L+1⟩ (runF ⟨fnOf, specB, L+1⟩ (n+1)) (.nz (r : Int)) := by show (r : Int) ≠ 0; omega
  have nz2 : Con.holds ⟨fnOf, specB, L+1⟩ (runF ⟨fnOf, specB, L+1⟩ (n+1)) (.nz (IntKind.wrap .u64 (IntKind.wrap .i64 (Int.tdiv 8 (r : Int))))) := by rw [eq8, wrapU_id (by omega)]; show (q8 : Int) ≠ 0; omega
  have q3' : Con.holds ⟨fnOf, specB, L+1⟩ (runF ⟨fnOf, specB, L+1⟩ (n+1)) (.loop 0 [2, 7, 8, 9, 10] m11b2 [26] (pt2St M r f ts zs [] [26] 0 (IntKind.wrap .i64 (((zs.map celC).length : Int) - 1))) (.exit 0) (pt2St M r f ts zs (tab aF K) st K ((K : Int) - 1 - K))) := by
    have ew : IntKind.wrap .i64 (((zs.map celC).length : Int) - 1) = (K : Int) - 1 - (0 : Nat) := by rw [zml, wrap_id (by omega)]; omega
    rw [ew]
    exact q3
  by_cases hbig : 64 < (ts.length - 1) * M + 1
  · have es : strA (r : Int) (f : Int) ts (M : Int) = .tup [.agg [.int .i64 0, .int .i64 0, .own 1 (([] : List Nat).map celF) true], .int .i64 8] := by
      have e8 : strC (r : Int) (f : Int) ts (M : Int) = 8 := by
        unfold strC
        rw [if_neg (by rw [hc]; decide), if_neg (by omega), eTM, if_pos (by omega)]
      unfold strA strL pulA
      rw [e8]; rfl
    rw [es] at str
    have wT : IntKind.wrap .i64 (IntKind.wrap .i64 (IntKind.wrap .i64 (((ts.map celF).length : Int) - 1) * (M : Int)) + 1) = (((ts.length - 1) * M + 1 : Nat) : Int) := by
      rw [tml, wrap_id (n := (ts.length : Int) - 1) (by omega), eTM]
      generalize (ts.length - 1) * M = q at *
      rw [wrap_id (n := (q : Int)) (by omega), wrap_id (by omega)]; omega
    have fin := @pTu_5 (L+1) (n+1) rate fore att m ((K : Int) - 1 - K) f M r xs ps [] ts zs us vs (tab aF K) [] odd 0 0 N K 0 st [] r f ts zs us 0 r ((ts.length - 1 - f : Nat) : Int) ts.reverse 0 vs 0 0 0 0 [] 8
      (call_den d1) nz1 nz2 (call_den d2) (by rw [eM]; exact q3') (by rw [ct, cz]; exact h1) leOut leOut (by rw [ct]; exact trn) (by rw [ctr, ca]; exact h2) leOut leA rfl rfl rfl (by rw [ctr]; exact hck2) rfl (by rw [m1, m2]; simp) q4 (by rw [ct]; exact str) rfl
    rw [wT] at fin
    rw [fin, show decide ((((ts.length - 1) * M + 1 : Nat) : Int) > 64) = true from decide_eq_true (by omega)]
  · have hfs := fit_str hf M1 rM (by omega)
    have es : strA (r : Int) (f : Int) ts (M : Int) = .tup [.agg [.int .i64 ((r * M : Nat) : Int), .int .i64 ((f * M : Nat) : Int), .own 1 ((gS M ts ((ts.length - 1) * M + 1)).map celF) true], .int .i64 0] := by
      have e0 : strC (r : Int) (f : Int) ts (M : Int) = 0 := by
        unfold strC
        rw [if_neg (by rw [hc]; decide), if_neg (by omega), eTM, if_neg (by omega)]
      unfold strA strL pulA
      rw [if_pos e0, if_pos e0, if_pos e0, e0, erM, efM, Int.toNat_natCast]
    rw [es] at str
    generalize hgs : gS M ts ((ts.length - 1) * M + 1) = gs at *
    have gl : gs.length = (ts.length - 1) * M + 1 := by rw [← hgs, gS_len]
    obtain ⟨ws, h3, l3, g3⟩ := @shape_fit (L+1) (r * M) (f * M) (fun j => if j % M = 0 then t (j / M) else 0) (zR ps) (zI ps) gs (runF ⟨fnOf, specB, L+1⟩ (n+1)) zs hfs (by omega) (fun k => by have := zb k; omega) (fun k => by have := zb k; omega) (fun k hk => z6 k (by omega))
    rw [zl, gl] at l3 g3
    have hck3 := spec_is (P := ⟨fnOf, specB, L+1⟩) (C := runF ⟨fnOf, specB, L+1⟩ (n+1)) (f := 28) rfl (chkSem_at ((r * M : Nat) : Int) ((f * M : Nat) : Int) gs)
    rw [fit_chk hfs] at hck3
    have wlen : ws.length = if K = 0 then 0 else (N - 1) * M + 1 := by
      rw [l3]
      unfold shLen
      by_cases h0 : K = 0
      · rw [if_pos h0, if_pos h0]
      · rw [if_neg h0, if_neg h0, hKM h0]
        have e : (K - 1) * r + ts.length - 1 = (K - 1) * r + (ts.length - 1) := by omega
        rw [e, Nat.add_mul, ← Nat.mul_assoc]; omega
    have hNM : (N - 1) * M ≤ 4000 * 8 := Nat.mul_le_mul (by omega) (by omega)
    have wb : ws.length ≤ 40000 := by rw [wlen]; split <;> omega
    have mw : (ws.map celC).length = ws.length := map_len
    have q5 : Con.holds ⟨fnOf, specB, L+1⟩ (runF ⟨fnOf, specB, L+1⟩ (n+1)) (.loop 0 [2, 11, 19, 20] m11b0 [132] (pt0St M us ws 0) (.exit 4) (pt0St M us ws ws.length)) := by
      refine loopX (res := m11.res) (fun i => pt0St M us ws i) ws.length rfl (by omega) (fun i hi => ?_) ?_ (by simp)
      · obtain ⟨a3, b3⟩ := g3 i (by rw [← l3]; exact hi)
        rw [acc_str M1 (by omega)] at a3 b3
        have nzM : Con.holds ⟨fnOf, specB, L+1⟩ (runF ⟨fnOf, specB, L+1⟩ (n+1)) (.nz (M : Int)) := by show (M : Int) ≠ 0; omega
        have em : (i : Int).tmod (M : Int) = ((i % M : Nat) : Int) := (Int.ofNat_tmod i M).symm
        have hwx : Con.holds ⟨fnOf, specB, L+1⟩ (runF ⟨fnOf, specB, L+1⟩ (n+1)) (.ix (.int .i64 i) (List.length (ws.map celC)) i) := by rw [show List.length (ws.map celC) = _ from mw]; exact ix_at hi
        have hwa : Con.holds ⟨fnOf, specB, L+1⟩ (runF ⟨fnOf, specB, L+1⟩ (n+1)) (.at (ws.map celC) (0 + i) [.cpx (ws.getD i (0, 0)).1 (ws.getD i (0, 0)).2]) := by rw [Nat.zero_add]; exact atD_map (f := celC) hi
        by_cases c : i % M = 0
        · rw [if_pos c] at a3 b3
          have hiN : i / M < N := by
            have h0 : K ≠ 0 := fun h => by rw [wlen, if_pos h] at hi; omega
            rw [wlen, if_neg h0] at hi
            have hN1 : 1 ≤ N := by have := hKM h0; omega
            have : i / M ≤ N - 1 := by
              have h := Nat.div_le_div_right (c := M) (show i ≤ (N - 1) * M by omega)
              rwa [Nat.mul_div_cancel _ (by omega)] at h
            omega
          obtain ⟨a1, b1⟩ := g1 (i / M) hiN
          have e1 : feq (ws.getD i (0, 0)).1 (us.getD (i / M) (0, 0)).1 = true := by rw [grid_eq a3 a1]; exact decide_eq_true rfl
          have e2 : feq (ws.getD i (0, 0)).2 (us.getD (i / M) (0, 0)).2 = true := by rw [grid_eq b3 b1]; exact decide_eq_true rfl
          have ed : IntKind.wrap .i64 ((i : Int).tdiv (M : Int)) = ((i / M : Nat) : Int) := by
            rw [show (i : Int).tdiv (M : Int) = ((i / M : Nat) : Int) from (Int.ofNat_tdiv i M).symm]
            generalize i / M = q at *
            exact wrap_id (by omega)
          have hux : Con.holds ⟨fnOf, specB, L+1⟩ (runF ⟨fnOf, specB, L+1⟩ (n+1)) (.ix (.int .i64 (IntKind.wrap .i64 ((i : Int).tdiv (M : Int)))) (List.length (us.map celC)) (i / M)) := by rw [ed, show List.length (us.map celC) = N from m1]; exact ix_at hiN
          have hua : Con.holds ⟨fnOf, specB, L+1⟩ (runF ⟨fnOf, specB, L+1⟩ (n+1)) (.at (us.map celC) (0 + i / M) [.cpx (us.getD (i / M) (0, 0)).1 (us.getD (i / M) (0, 0)).2]) := by rw [Nat.zero_add]; exact atD_map (f := celC) (by omega)
          have := @pt0_3 (L+1) (n+1) 0 0 0 M 0 0 0 0 [] [] [] [] [] us ws [] [] 0 0 0 i 0 0 [] [132] i (ws.getD i (0, 0)) (i / M) (us.getD (i / M) (0, 0)) (by rw [mw]; exact dLt hi) nzM (by rw [em, c]; rfl) hwx hwa hux hua (by rw [e1, e2]; rfl) (by rw [em, c]; rfl)
          rw [wrapUp hi (by omega)] at this
          exact this
        · rw [if_neg c] at a3 b3
          have e1 : feq (ws.getD i (0, 0)).1 0 = true := by rw [grid_eq a3 grid_zero0]; exact decide_eq_true rfl
          have e2 : feq (ws.getD i (0, 0)).2 0 = true := by rw [grid_eq b3 grid_zero0]; exact decide_eq_true rfl
          have hne : ((i % M : Nat) : Int) ≠ 0 := by omega
          have := @pt0_5 (L+1) (n+1) 0 0 0 M 0 0 0 0 [] [] [] [] [] us ws [] [] 0 0 0 i 0 0 [] [132] i (ws.getD i (0, 0)) (by rw [mw]; exact dLt hi) nzM (by rw [em]; simpa using hne) (by rw [em]; simpa using hne) hwx hwa (by rw [e1, e2]; rfl)
          rw [wrapUp hi (by omega)] at this
          exact this
      · exact @pt0_7 (L+1) (n+1) 0 0 0 M 0 0 0 0 [] [] [] [] [] us ws [] [] 0 0 0 ws.length 0 0 [] [132] (by rw [mw]; exact dNlt)
    have cg : cutX (gs.map celF) 0 (List.length (gs.map celF)) = gs.map celF := cutAll
    by_cases h0 : K = 0
    · exact @pTu_14 (L+1) (n+1) rate fore att m ((K : Int) - 1 - K) f M r xs ps [] ts zs us vs (tab aF K) ws odd 0 0 N K ws.length st [] r f ts zs us 0 r ((ts.length - 1 - f : Nat) : Int) ts.reverse 0 vs 0 0 ((r * M : Nat) : Int) ((f * M : Nat) : Int) gs 0 ws 0 0
        (call_den d1) nz1 nz2 (call_den d2) (by rw [eM]; exact q3') (by rw [ct, cz]; exact h1) leOut leOut (by rw [ct]; exact trn) (by rw [ctr, ca]; exact h2) leOut leA rfl rfl rfl (by rw [ctr]; exact hck2) rfl (by rw [m1, m2]; simp) q4 (by rw [ct]; exact str) rfl (by rw [cg, cz]; exact h3) leOut rfl rfl (by rw [cg]; exact hck3) rfl (by rw [zml, h0]; rfl) (by rw [zml, h0]; rfl) (by rw [mw, wlen, if_pos h0]; rfl) q5
    · have wN : IntKind.wrap .i64 (IntKind.wrap .i64 (IntKind.wrap .i64 (((us.map celC).length : Int) - 1) * (M : Int)) + 1) = (((N - 1) * M + 1 : Nat) : Int) := by
        have hN1 : 1 ≤ N := by have := hKM h0; omega
        have e : ((N : Int) - 1) * (M : Int) = (((N - 1) * M : Nat) : Int) := by rw [Int.natCast_mul]; congr 1; omega
        rw [m1, wrap_id (n := (N : Int) - 1) (by omega), e]
        generalize (N - 1) * M = q at *
        rw [wrap_id (n := (q : Int)) (by omega), wrap_id (by omega)]; omega
      exact @pTu_12 (L+1) (n+1) rate fore att m ((K : Int) - 1 - K) f M r xs ps [] ts zs us vs (tab aF K) ws odd 0 0 N K ws.length st [] r f ts zs us 0 r ((ts.length - 1 - f : Nat) : Int) ts.reverse 0 vs 0 0 ((r * M : Nat) : Int) ((f * M : Nat) : Int) gs 0 ws 0 0
        (call_den d1) nz1 nz2 (call_den d2) (by rw [eM]; exact q3') (by rw [ct, cz]; exact h1) leOut leOut (by rw [ct]; exact trn) (by rw [ctr, ca]; exact h2) leOut leA rfl rfl rfl (by rw [ctr]; exact hck2) rfl (by rw [m1, m2]; simp) q4 (by rw [ct]; exact str) rfl (by rw [cg, cz]; exact h3) leOut rfl rfl (by rw [cg]; exact hck3) rfl (by rw [zml]; exact dT (by omega)) (by rw [wN, mw, wlen, if_neg h0]; simp) (by rw [zml]; simpa using h0) q5
end
end Go.Proofs.Ytaklelfdcbgebaa.Fw
