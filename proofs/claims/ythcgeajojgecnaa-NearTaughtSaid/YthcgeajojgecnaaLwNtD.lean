/- NearTaught: the law's own run. -/
import Derived.Test.YthcgeajojgecnaaLwNtC
set_option maxRecDepth 100000
set_option maxHeartbeats 4000000
set_option exponentiation.threshold 4000
set_option linter.unusedSimpArgs false
set_option linter.unusedVariables false
namespace Go.Proofs.Ythcgeajojgecnaa.Fw
open Go Go.RowKit
theorem areT_same {K J K' J' : Nat → Int} {m : Nat} (h : ∀ i, i < m → K' i = K i ∧ J' i = J i) (hA : areT K J m) : areT K' J' m := by
  have e : ∀ i, i ≤ m → sumA K' J' i = sumA K J i := fun i => by
    induction i with
    | zero => intro _; rfl
    | succ i ih => intro hi; rw [sumA, sumA, ih (by omega), (h i (by omega)).1, (h i (by omega)).2]
  refine ⟨fun i hi => ?_, by rw [e m (Nat.le_refl _)]; exact hA.2⟩
  have := hA.1 i hi
  unfold tapB at this ⊢
  rw [(h i hi).1, (h i hi).2]; exact this
theorem raw_clean {k R G A M : Nat} {ss : List ((Nat × Nat) × Bool)} (hk1 : 1 ≤ k) (hk : k ≤ 8) (hR : 1 ≤ R) (hR8 : R ≤ 8) (hG : G ≤ 4096) (hM1 : 1 ≤ M) (hM : M ≤ 64) (hl : ss.length ≤ 65536) (h0 : ∀ t, (ss.getD t ((0, 0), false)).2 = false) (hm : ∀ t, mayF (ss.getD t ((0, 0), false)) = true) : rawE k R G ss A M = 0 := by
  have hc : (chkW ss).2 = 0 := (chkW_is ss).1.1.2 ⟨hl, fun i _ => hm i⟩
  unfold rawE
  rw [if_pos ⟨may_nat hk1 hk hR hR8 hG, hl, by omega, by omega, by omega⟩, if_pos hc, if_pos]
  unfold rawAll
  refine List.all_eq_true.2 fun j _ => ?_
  unfold okT okJ
  rw [okS_clean h0, okS_clean h0]; rfl
theorem sl_fromN {P : Prog} {C : Caller} {z a len : Nat} {s : Site} {st : List Nat} (h : a ≤ len) : Con.holds P C (.sl (some z) (.slc s st z 0 len false) (some (.int .i64 a)) none none (.slc s st z a (len - a) false)) := by
  show sliceSem _ _ _ _ _ = _
  simp only [sliceSem, bnd]
  simp [h]
section
variable {L n : Nat} {es ds : List (Int × Int)} {o la : Int}
theorem law_ntaught (hL : 70000 ≤ L) (ho : 0 ≤ o ∧ o ≤ 255) (hla : 0 ≤ la ∧ la ≤ 255) :
    den ⟨fnOf, specN, L+1⟩ (n+8) 13 [.agg [.int .u8 o, .int .u8 la, .lst 2 (es.map celB), .lst 2 (ds.map celH)]] = some (.v (.bool true)) := by
  obtain ⟨M, he, hM64, hAre⟩ := @echoE_den L (n+6) es (by omega)
  by_cases hM0 : M = 0
  · subst hM0
    exact @ntl_0 (L+1) (n+7) es ds [] [] [] [] o la 0 0 0 0 0 0 0 0 0 0 false [] [] [] [] (tab (tapN es) 0) (call_den he) rfl
  obtain ⟨k, ek, hk1, hk6⟩ : ∃ k : Nat, IntKind.wrap .i64 ((IntKind.wrap .i64 o).tmod 6 + 1) = (k : Int) ∧ 1 ≤ k ∧ k ≤ 6 := by
    rw [wrap_id (n := o) (by omega)]
    have h1 := tmod_le o (m := 6) (by decide)
    have h2 : 0 ≤ o.tmod 6 := Int.tmod_nonneg _ ho.1
    rw [wrap_id (by omega)]
    exact ⟨(o.tmod 6 + 1).toNat, by omega, by omega, by omega⟩
  obtain ⟨A, eA, hA19⟩ : ∃ A : Nat, (IntKind.wrap .i64 la).tmod 20 = (A : Int) ∧ A ≤ 19 := by
    rw [wrap_id (n := la) (by omega)]
    have h1 := tmod_le la (m := 20) (by decide)
    have h2 : 0 ≤ la.tmod 20 := Int.tmod_nonneg _ hla.1
    exact ⟨(la.tmod 20).toNat, by omega, by omega⟩
  obtain ⟨hs, hhs⟩ : ∃ hs, hs = tab (tapN es) M := ⟨_, rfl⟩
  have hl : hs.length = M := by rw [hhs, tab_len]
  have hml : (hs.map celC).length = M := by rw [map_len, hl]
  have hH : tapL (KE es) (JE es) hs := by rw [hhs]; exact tapsN_tab es M
  rw [← hhs] at he
  obtain ⟨G, hG⟩ : ∃ G, M = G + 1 := ⟨M - 1, by omega⟩
  have eG : IntKind.wrap .i64 (((hs.map celC).length : Int) - 1) = (G : Int) := by rw [hml, show (M : Int) - 1 = (G : Int) by omega, wrap_id (by omega)]
  have hmay : mayB (k : Int) 1 (G : Int) = true := may_nat (R := 1) hk1 (by omega) (by omega) (by omega) (by omega)
  obtain ⟨pl1, pl2⟩ := prs_len k
  obtain ⟨s1, s2⟩ := sgn_one k
  have eD : layD (k : Int) 1 (G : Int) = layW (prs k).1 (prs k).2 1 (1 * 2 ^ k + G) (2 ^ k) := by unfold layD; rw [if_pos hmay]; rfl
  have eE : layE (k : Int) 1 (G : Int) = 0 := by unfold layE; rw [if_pos hmay]
  have hZ : (layD (k : Int) 1 (G : Int)).length = 2 * (1 * 2 ^ k + G) := by rw [eD, layW_len]
  have hZ2 := layD_len (k : Int) 1 (G : Int)
  have hZ1 : 1 ≤ (layD (k : Int) 1 (G : Int)).length := by have : 0 < 2 ^ k := Nat.pow_pos (by decide); omega
  obtain ⟨xA, xB, xZ, xY, xV⟩ := @layX_is (prs k).1 (prs k).2 1 (1 * 2 ^ k + G) (2 ^ k) pl1 pl2 (Nat.le_refl 1) (fun i hi => idx_in hi (Nat.le_refl 1)) (fun i hi => s1 i (by rw [pl1]; exact hi)) (fun i hi => s2 i (by rw [pl2]; exact hi))
  rw [← eD] at xV
  generalize hX : layX (prs k).1 (prs k).2 1 (1 * 2 ^ k + G) (2 ^ k) = X at *
  generalize hzs : layD (k : Int) 1 (G : Int) = zs at *
  have zml : (zs.map celC).length = zs.length := map_len
  have hXb : ∀ t, (X t).natAbs ≤ 128 := fun t => (xV t).2.2
  have hAre' : areT (KE es) (JE es) hs.length := by rw [hl]; exact hAre
  obtain ⟨ys, d2, yl, hy⟩ := @echo_den L (n+3) hs zs (KE es) (JE es) X hH hAre' (by omega) xV (by omega) (by omega)
  rw [hl] at hy
  have thb : ∀ t, (thruS (KE es) X 1 M t).natAbs ≤ 2 ^ 15 ∧ (thruS (JE es) X 1 M t).natAbs ≤ 2 ^ 15 := fun t => by
    obtain ⟨a, b⟩ := thru_abs2 (K := KE es) (J := JE es) (R := 1) (n := t) hXb M
    have := hAre.2
    omega
  obtain ⟨ss, st, q2, sl, hx⟩ := @row_loop L (n+7) ds hs zs ys (k : Int) (G : Int) A (thruS (KE es) X 1 M) (thruS (JE es) X 1 M) yl hZ1 (by omega) (by omega) (by omega) hy (fun t => by have := thb t; omega)
  have sml : List.length (ss.map celS) = ss.length := map_len
  -- the disturbance by places
  obtain ⟨νR, hνR⟩ : ∃ ν : Nat → Int, ν = fun t => if A ≤ t ∧ t < A + zs.length then dsR ds (t - A) else 0 := ⟨_, rfl⟩
  obtain ⟨νI, hνI⟩ : ∃ ν : Nat → Int, ν = fun t => if A ≤ t ∧ t < A + zs.length then dsI ds (t - A) else 0 := ⟨_, rfl⟩
  have nb : ∀ t, (νR t).natAbs ≤ 4095 ∧ (νI t).natAbs ≤ 4095 := fun t => by
    obtain ⟨a, b⟩ := ds_small ds (t - A)
    rw [hνR, hνI]
    show (if A ≤ t ∧ t < A + zs.length then dsR ds (t - A) else 0).natAbs ≤ 4095 ∧ (if A ≤ t ∧ t < A + zs.length then dsI ds (t - A) else 0).natAbs ≤ 4095
    split
    · exact ⟨a, b⟩
    · decide
  have rs : ∀ (Q d : Nat → Int) (t : Nat), rowS (thruS Q X 1 M) d A zs.length t = 64 * calmS Q X 1 M A zs.length t + (if A ≤ t ∧ t < A + zs.length then d (t - A) else 0) := fun Q d t => by
    unfold rowS calmS
    split
    · rfl
    · rfl
  have hxb := fun t => calm_abs (R := 1) (A := A) (z := zs.length) (t := t) hXb hAre
  have my : ∀ t, mayF (ss.getD t ((0, 0), false)) = true ∧ ptR (ss.getD t ((0, 0), false)) = 64 * calmS (KE es) X 1 M A zs.length t + νR t ∧ ptI (ss.getD t ((0, 0), false)) = 64 * calmS (JE es) X 1 M A zs.length t + νI t := fun t => by
    obtain ⟨a, b, c⟩ := hx t
    have h1 := hxb t
    have h2 := nb t
    rw [rs] at b c
    have e1 : (if A ≤ t ∧ t < A + zs.length then dsR ds (t - A) else 0) = νR t := by rw [hνR]
    have e2 : (if A ≤ t ∧ t < A + zs.length then dsI ds (t - A) else 0) = νI t := by rw [hνI]
    rw [e1] at b
    rw [e2] at c
    exact may_of a b c (by omega) (by omega)
  have ey : rawE (k : Int) 1 (G : Int) ss A M = 0 := raw_clean (A := A) (R := 1) hk1 (show k ≤ 8 by omega) (Nat.le_refl 1) (by omega) (show G ≤ 4096 by omega) (show 1 ≤ M by omega) hM64 (show ss.length ≤ 65536 by omega) (fun t => (hx t).1) (fun t => (my t).1)
  have hmin : min ((A : Int)).toNat 65536 = A := by rw [Int.toNat_natCast]; omega
  have near : ∀ E : Int, E.natAbs ≤ 2 * 2 ^ k * 4095 → 2 * E.natAbs < 2 ^ (14 + k) := fun E h => by
    rw [Nat.pow_add, show (2 : Nat) ^ 14 = 16384 from rfl]
    have hp : 0 < 2 ^ k := Nat.pow_pos (by decide)
    generalize 2 ^ k = W at *
    omega
  have ty : ∀ j, j < M → tpR (k : Int) 1 (G : Int) ss A j = KE es j ∧ tpI (k : Int) 1 (G : Int) ss A j = JE es j := fun j hj => by
    obtain ⟨E1, a1, b1⟩ := @tot_thru (KE es) X νR k 1 G M A 4095 ss ptR (by omega) hM64 (Nat.le_refl 1) (by omega) xA xB xZ xY (by rw [sl, hZ]) (fun t => by rw [← hZ]; exact (my t).2.1) (fun t => (nb t).1) j hj
    obtain ⟨E2, a2, b2⟩ := @tot_thru (JE es) X νI k 1 G M A 4095 ss ptI (by omega) hM64 (Nat.le_refl 1) (by omega) xA xB xZ xY (by rw [sl, hZ]) (fun t => by rw [← hZ]; exact (my t).2.2) (fun t => (nb t).2) j hj
    unfold tpR tpI
    rw [hmin]
    exact ⟨tap_near (by omega) a1 (near E1 b1), tap_near (by omega) a2 (near E2 b2)⟩
  -- what is learnt
  have ht := spec_is (P := ⟨fnOf, specN, L+1⟩) (C := runF ⟨fnOf, specN, L+1⟩ (n+6)) (f := 37) rfl (tapSem_at false (k : Int) 1 (G : Int) ss A M)
  have et : tapE (k : Int) 1 (G : Int) ss A M = 0 := by
    unfold tapE
    rw [if_pos ey, if_pos (areT_same (fun i hi => ty i (by rw [Int.toNat_natCast] at hi; exact hi)) (by rw [Int.toNat_natCast]; exact hAre))]
  rw [if_neg (by decide), et] at ht
  obtain ⟨_, _, hv⟩ := tapW_is (k : Int) 1 (G : Int) ss A M
  generalize tapW (k : Int) 1 (G : Int) ss A M = w2 at *
  rcases hv with ⟨_, vl, _, vr, _⟩ | ⟨hno, _⟩
  · obtain ⟨vs, vz⟩ := w2
    have vl : vs.length = M := vl
    have vml : List.length (vs.map celC) = M := by rw [show List.length (vs.map celC) = _ from map_len, vl]
    have hV : tapL (KE es) (JE es) vs := fun j hj => by
      have := vr j hj
      obtain ⟨e1, e2⟩ := ty j (by omega)
      rw [e1, e2] at this
      exact this
    have dl := @nle_0 (L+1) (n+6) [] [] [] [] [] ss (k : Int) 0 (G : Int) A M 0 0 0 0 0 0 0 false [] [] [] [] vs 0 ht leSelf
    rw [tkMap map_len] at dl
    have cs : cutX (ss.map celS) 0 (A + zs.length) = ss.map celS := tkMap sl.symm
    have cz : cutX (zs.map celC) 0 (List.length (zs.map celC)) = zs.map celC := cutAll
    have ch : cutX (hs.map celC) 0 (List.length (hs.map celC)) = hs.map celC := cutAll
    have cv : cutX (vs.map celC) 0 (List.length (vs.map celC)) = vs.map celC := cutAll
    have cd : cutX (ss.map celS) A zs.length = (ss.drop A).map celS := by
      have e : ∀ (els : List (List AV)) (a b : Nat), cutX els a b = List.take b (List.drop a els) := fun els a b => by cases a <;> rfl
      rw [e, ← List.map_drop, tkMap]
      rw [List.length_drop, sl]; omega
    -- the comparing loop
    have q1 : Con.holds ⟨fnOf, specN, L+1⟩ (runF ⟨fnOf, specN, L+1⟩ (n+7)) (.loop 0 [4, 6, 8, 11, 12, 15, 17] m13b1 [85] (ncmSt hs zs vs A st (A + zs.length) ss 0) (.exit 2) (ncmSt hs zs vs A st (A + zs.length) ss M)) := by
      refine loopX (res := m13.res) (fun i => ncmSt hs zs vs A st (A + zs.length) ss i) M rfl (by omega) (fun i hi => ?_) ?_ (by simp)
      · obtain ⟨a, b⟩ := hH i (by omega)
        obtain ⟨c, d⟩ := hV i (by omega)
        have f1 : feq (vs.getD i (0, 0)).1 (hs.getD i (0, 0)).1 = true := by rw [grid6_eq c a]; exact decide_eq_true rfl
        have f2 : feq (vs.getD i (0, 0)).2 (hs.getD i (0, 0)).2 = true := by rw [grid6_eq d b]; exact decide_eq_true rfl
        have hav : Con.holds ⟨fnOf, specN, L+1⟩ (runF ⟨fnOf, specN, L+1⟩ (n+7)) (.at (vs.map celC) (0 + i) [.cpx (vs.getD i (0, 0)).1 (vs.getD i (0, 0)).2]) := by rw [Nat.zero_add]; exact atD_map (f := celC) (by omega)
        have hah : Con.holds ⟨fnOf, specN, L+1⟩ (runF ⟨fnOf, specN, L+1⟩ (n+7)) (.at (hs.map celC) (0 + i) [.cpx (hs.getD i (0, 0)).1 (hs.getD i (0, 0)).2]) := by rw [Nat.zero_add]; exact atD_map (f := celC) (by omega)
        have := @ncm_1 (L+1) (n+7) [] [] zs hs [] ss 0 0 0 A 0 0 0 0 0 0 i (A + zs.length) false st [85] vs [] i (vs.getD i (0, 0)) i (hs.getD i (0, 0)) (by rw [hml]; exact dLt hi) (by rw [vml]; exact ix_at hi) hav (by rw [show List.length (hs.map celC) = M from hml]; exact ix_at hi) hah (by rw [f1, f2]; rfl)
        rw [wrapUp hi (by omega)] at this
        exact this
      · exact @ncm_2 (L+1) (n+7) [] [] zs hs [] ss 0 0 0 A 0 0 0 0 0 0 M (A + zs.length) false st [85] vs [] (by rw [hml]; exact dNlt)
    -- the echo taken off
    have dg : ∀ t, (ss.drop A).getD t ((0, 0), false) = ss.getD (A + t) ((0, 0), false) := fun t => by
      rw [List.getD_eq_getElem?_getD, List.getElem?_drop, ← List.getD_eq_getElem?_getD]
    have dln : (ss.drop A).length = zs.length := by rw [List.length_drop, sl]; omega
    obtain ⟨rs2, d3, rl, hr⟩ := @off_den L (n+1) vs zs (KE es) (JE es) X (ss.drop A) (dsR ds) (dsI ds) hV (by rw [vl]; exact hAre) (by omega) xV (by omega) (by omega) dln (fun i hi => by rw [dg]; exact (my (A + i)).1) (fun t ht => by
      rw [dg, vl]
      obtain ⟨a, b, c⟩ := hx (A + t)
      have e : ∀ Q d : Nat → Int, rowS Q d A zs.length (A + t) = 64 * Q t + d t := fun Q d => by
        unfold rowS
        rw [if_pos (by omega), Nat.add_sub_cancel_left]
      rw [e] at b c
      exact ⟨a, b, c, (ds_small ds t).1, (ds_small ds t).2⟩)
    have rml : List.length (rs2.map celS) = zs.length := by rw [show List.length (rs2.map celS) = _ from map_len, rl]
    have q0 : Con.holds ⟨fnOf, specN, L+1⟩ (runF ⟨fnOf, specN, L+1⟩ (n+7)) (.loop 0 [8, 18, 20] m13b0 [106] (nfnSt zs rs2 0) (.exit 4) (nfnSt zs rs2 zs.length)) := by
      refine loopX (res := m13.res) (fun i => nfnSt zs rs2 i) zs.length rfl (by omega) (fun i hi => ?_) ?_ (by simp)
      · obtain ⟨v0, v1, v2⟩ := hr i hi
        obtain ⟨b1, b2⟩ := ds_small ds i
        obtain ⟨m1, m2⟩ := sq_low v1 b1
        obtain ⟨m3, m4⟩ := sq_low2 v2 b2
        have z0 : fmul 0 0 = 0 := by kernel_rfl
        have n1 := @nno_0 (L+1) (n+6) [] [] [] [] [] 0 0 0 0 (rs2.getD i ((0, 0), false)).1.1 0 0 0 false [] []
        have n2 := @nno_0 (L+1) (n+6) [] [] [] [] [] 0 0 0 0 0 (rs2.getD i ((0, 0), false)).1.2 0 0 false [] []
        rw [z0] at n1 n2
        have har : Con.holds ⟨fnOf, specN, L+1⟩ (runF ⟨fnOf, specN, L+1⟩ (n+7)) (.at (rs2.map celS) (0 + i) [.cpx (rs2.getD i ((0, 0), false)).1.1 (rs2.getD i ((0, 0), false)).1.2, .v (.bool (rs2.getD i ((0, 0), false)).2)]) := by rw [Nat.zero_add]; exact atD_map (f := celS) (by omega)
        have hix : Con.holds ⟨fnOf, specN, L+1⟩ (runF ⟨fnOf, specN, L+1⟩ (n+7)) (.ix (.int .i64 i) (List.length (rs2.map celS)) i) := by rw [rml]; exact ix_at hi
        have := @nfn_2 (L+1) (n+7) [] [] zs [] [] [] 0 0 0 0 0 0 0 0 0 0 i 0 false [] [106] [] rs2 i (rs2.getD i ((0, 0), false)) i (rs2.getD i ((0, 0), false)) _ i (rs2.getD i ((0, 0), false)) _ (by rw [zml]; exact dLt hi) hix har v0 hix har (call_den n1) hix har (call_den n2) (max_low m1 m3 m2 m4)
        rw [wrapUp hi (by omega)] at this
        exact this
      · exact @nfn_3 (L+1) (n+7) [] [] zs [] [] [] 0 0 0 0 0 0 0 0 0 0 zs.length 0 false [] [106] [] rs2 (by rw [zml]; exact dNlt)
    have hmk : Con.holds ⟨fnOf, specN, L+1⟩ (runF ⟨fnOf, specN, L+1⟩ (n+7)) (.mk A A true (List.map celS (List.replicate A ((0, 0), false))) (A : Int) (A : Int) 24 [.cpx 0 0, .v (.bool false)]) :=
      mk_ok (f := celS) (a := ((0, 0), false)) rfl (by simp only [most]; omega) (by simp only [most]; omega)
    have hsl := @sl_fromN ⟨fnOf, specN, L+1⟩ (runF ⟨fnOf, specN, L+1⟩ (n+7)) 2 A (A + zs.length) ⟨0, 111, 0⟩ st (by omega)
    rw [show A + zs.length - A = zs.length by omega] at hsl
    have e2 : Con.holds ⟨fnOf, specN, L+1⟩ (runF ⟨fnOf, specN, L+1⟩ (n+7)) (.call 65 [.lst 1 (cutX (zs.map celC) 0 (List.length (zs.map celC))), .lst 1 (cutX (hs.map celC) 0 (List.length (hs.map celC))), .int .i64 ((zs.map celC).length : Int)] (.tup [.own 1 (ys.map celC) true, .int .i64 0])) := by
      rw [cz, ch, zml]; exact call_den d2
    have e3 : Con.holds ⟨fnOf, specN, L+1⟩ (runF ⟨fnOf, specN, L+1⟩ (n+7)) (.call 62 [.agg [.int .i64 (k : Int), .int .i64 1, .int .i64 (G : Int)], .lst 2 (cutX (ss.map celS) 0 (A + zs.length)), .int .i64 (A : Int), .int .i64 ((hs.map celC).length : Int)] (.tup [.own 1 (vs.map celC) true, .int .i64 0])) := by
      rw [cs, hml]; exact call_den dl
    have e4 : Con.holds ⟨fnOf, specN, L+1⟩ (runF ⟨fnOf, specN, L+1⟩ (n+7)) (.call 46 [.lst 2 (cutX (ss.map celS) A zs.length), .lst 1 (cutX (zs.map celC) 0 (List.length (zs.map celC))), .lst 1 (cutX (vs.map celC) 0 (List.length (vs.map celC)))] (.tup [.own 2 (rs2.map celS) true, .int .i64 0])) := by
      rw [cd, cz, cv]; exact call_den d3
    have yml : List.length (ys.map celC) = zs.length := by rw [show List.length (ys.map celC) = _ from map_len, yl]
    exact @ntl_8 (L+1) (n+7) es ds zs hs ys ss o la (G : Int) A (k : Int) 0 M zs.length A zs.length zs.length (A + zs.length) false st [] vs rs2 hs ys 0 A vs 0 rs2 0
      (call_den he) (by rw [hml]; simpa using hM0) (by rw [ek, eG, hzs]; exact e2) (by rw [ek, eG, hzs]; exact leOut) leOut (by rw [ek, eG, eE]; rfl) rfl (by rw [ek, eG, hzs, yml, zml]; simp) (by rw [eA]; exact hmk) (by rw [ek, eG, eA, hzs]; exact q2) e3 (by show _ ≤ _; rw [sml, sl]; omega) rfl (by rw [vml, hml]; simp) q1 hsl e4 (by show _ ≤ _; rw [sml, sl]; exact Nat.le_refl _) leOut leOut rfl (by rw [rml, zml]; simp) q0
  · exact absurd et hno
end
end Go.Proofs.Ythcgeajojgecnaa.Fw
