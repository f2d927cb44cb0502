/- TrainTaught: the law's own run. -/
import Derived.Test.YtldkgfbgndkbdaaLwTtE
set_option maxRecDepth 100000
set_option maxHeartbeats 4000000
set_option exponentiation.threshold 4000
set_option linter.unusedSimpArgs false
set_option linter.unusedVariables false
namespace Go.Proofs.Ytldkgfbgndkbdaa.Fw
open Go Go.RowKit
section
variable {σ : FuncId → Option (List AV → Option AV)} {L n : Nat}
theorem same14_den {us vs : List (Nat × Nat)} (hl : us.length = vs.length) (hL : us.length ≤ L) (hm : us.length ≤ 17592186044415)
    (h : ∀ i, i < us.length → feq (us.getD i (0, 0)).1 (vs.getD i (0, 0)).1 = true ∧ feq (us.getD i (0, 0)).2 (vs.getD i (0, 0)).2 = true) :
    den ⟨fnOf, σ, L+1⟩ (n+1) 18 [.lst 1 (us.map celC), .lst 1 (vs.map celC)] = some (.v (.bool true)) := by
  have hu : (us.map celC).length = us.length := map_len
  have hv : (vs.map celC).length = vs.length := map_len
  refine @tsa_1 σ (L+1) n us.length us vs (by rw [hu, hv, hl]; simp) ?_
  refine loopX (res := m18.res) (fun i => tsaSt us vs i) us.length rfl hL (fun i hi => ?_) ?_ (by simp)
  · have := @tsb_1 σ (L+1) n i us vs [7] (us.getD i (0, 0)) (vs.getD i (0, 0)) (by rw [hu]; exact dLt hi) (elD_map (f := celC) hi) (elD_map (f := celC) (by omega)) (by rw [(h i hi).1, (h i hi).2]; rfl)
    rw [wrap_id (n := (i : Int) + 1) (by omega)] at this
    exact this
  · exact @tsb_2 σ (L+1) n us.length us vs [7] (by rw [hu]; exact dNlt)
end
theorem areT_congr {K J K' J' : Nat → Int} {m : Nat} (h : ∀ i, i < m → K' i = K i ∧ J' i = J i) (hA : areT K J m) : areT K' J' m := by
  have e : ∀ i, i ≤ m → sumA K' J' i = sumA K J i := fun i => by
    induction i with
    | zero => intro _; rfl
    | succ i ih => intro hi; rw [sumA, sumA, ih (by omega), (h i (by omega)).1, (h i (by omega)).2]
  refine ⟨fun i hi => ?_, by rw [e m (Nat.le_refl _)]; exact hA.2⟩
  have := hA.1 i hi
  unfold tapB at this ⊢
  rw [(h i hi).1, (h i hi).2]; exact this
section
variable {k R G A M : Nat} {ss : List ((Nat × Nat) × Bool)}
/-- a clean row of numbers that may be is heard -/
theorem clean_raw (hk1 : 1 ≤ k) (hk : k ≤ 8) (hR : 1 ≤ R) (hR8 : R ≤ 8) (hG : G ≤ 4096) (hM1 : 1 ≤ M) (hM : M ≤ 64) (hl : ss.length ≤ 65536) (h0 : ∀ t, (ss.getD t ((0, 0), false)).2 = false) (hm : ∀ t, mayF (ss.getD t ((0, 0), false)) = true) : rawE k R G ss A M = 0 := by
  have hc : (chkW ss).2 = 0 := (chkW_is ss).1.1.2 ⟨hl, fun i _ => hm i⟩
  unfold rawE
  rw [if_pos ⟨may_nat hk1 hk hR hR8 hG, hl, by omega, by omega, by omega⟩, if_pos hc, if_pos]
  unfold rawAll
  refine List.all_eq_true.2 fun j _ => ?_
  unfold okT okJ
  rw [okS_clean h0, okS_clean h0]; rfl
end
section
variable {L n : Nat}
theorem law_taught {o r g ah : Int} {ps : List Int} {ns : List (Int × Int)} (hL : 20000 ≤ L) :
    den ⟨fnOf, specU, L+1⟩ (n+2) 9 [.agg [.int .i64 o, .int .i64 r, .int .i64 g], .lst 1 (ps.map celJ), .lst 2 (ns.map celZ), .int .i64 ah] = some (.v (.bool true)) := by
  by_cases hmay : mayB o r g = true
  · have hin := of_decide_eq_true hmay
    have hm0 : (!mayB o r g) = false := by rw [hmay]; rfl
    obtain ⟨k, rfl⟩ : ∃ k : Nat, o = (k : Int) := ⟨o.toNat, by omega⟩
    obtain ⟨R, rfl⟩ : ∃ k : Nat, r = (k : Int) := ⟨r.toNat, by omega⟩
    obtain ⟨G, rfl⟩ : ∃ k : Nat, g = (k : Int) := ⟨g.toNat, by omega⟩
    obtain ⟨M, hs, st, l1, hH, hle, hM64, hok⟩ := @taps_loop L n (k : Int) ah R G ps ns (by omega) (by omega) (by omega)
    by_cases hM0 : M = 0
    · subst hM0
      exact @ttl_1 (L+1) (n+1) k R G ah 0 ps ns hs [] [] [] [] 0 0 0 0 0 0 0 st [] [] hm0 l1 rfl
    · obtain ⟨hMR, hAre⟩ := hok hM0
      obtain ⟨pl1, pl2⟩ := prs_len k
      obtain ⟨s1, s2⟩ := sgn_one k
      have hk1 : 1 ≤ k := by omega
      have hk : k ≤ 8 := by omega
      have hR : 1 ≤ R := by omega
      have hR8 : R ≤ 8 := by omega
      have hG : G ≤ 4096 := by omega
      have eD : layD k R G = layW (prs k).1 (prs k).2 R (R * 2 ^ k + G) (2 ^ k) := by unfold layD; rw [if_pos hmay]; rfl
      have eE : layE k R G = 0 := by unfold layE; rw [if_pos hmay]
      have hZ : (layD k R G).length = 2 * (R * 2 ^ k + G) := by rw [eD, layW_len]
      have hZ2 := layD_len (k : Int) (R : Int) (G : Int)
      obtain ⟨xA, xB, xZ, xY, xV⟩ := @layX_is (prs k).1 (prs k).2 R (R * 2 ^ k + G) (2 ^ k) pl1 pl2 hR (fun i hi => idx_in hi hR) (fun i hi => s1 i (by rw [pl1]; exact hi)) (fun i hi => s2 i (by rw [pl2]; exact hi))
      rw [← eD] at xV
      generalize hX : layX (prs k).1 (prs k).2 R (R * 2 ^ k + G) (2 ^ k) = X at *
      obtain ⟨A, hA99, hAv⟩ : ∃ A : Nat, A ≤ 99 ∧ (IntKind.wrap .i64 (ah.tmod 100 + 100)).tmod 100 = (A : Int) := by
        have h1 := tmod_le ah (m := 100) (by decide)
        have w : IntKind.wrap .i64 (ah.tmod 100 + 100) = ah.tmod 100 + 100 := wrap_id (by omega)
        rw [w]
        have h2 := tmod_le (ah.tmod 100 + 100) (m := 100) (by decide)
        have h3 : 0 ≤ (ah.tmod 100 + 100).tmod 100 := Int.tmod_nonneg _ (by omega)
        exact ⟨((ah.tmod 100 + 100).tmod 100).toNat, by omega, by omega⟩
      have hHl : (tab (tapZ ps) M).length = M := tab_len
      obtain ⟨xs, l2, hxl, hx⟩ := @calm_loop L n (k : Int) (G : Int) R A M ns hs (tab (tapZ ps) M) (layD k R G) st (Kp ps) (Jp ps) X hH hle (taps_tab ps M) (fun i _ => KJ_small ps i) (by omega) hR8 xV hA99 (by omega) (by omega)
      rw [hHl] at hx
      have hXb : ∀ t, (X t).natAbs ≤ 128 := fun t => (xV t).2.2
      have hx6 : ∀ t, (xs.getD t ((0, 0), false)).2 = false ∧ grid (64 * calmS (Kp ps) X R M A (layD k R G).length t) (xs.getD t ((0, 0), false)).1.1 ∧ grid (64 * calmS (Jp ps) X R M A (layD k R G).length t) (xs.getD t ((0, 0), false)).1.2 := fun t => ⟨(hx t).1, grid6_grid (hx t).2.1, grid6_grid (hx t).2.2⟩
      have hxb := fun t => calm_abs (R := R) (A := A) (z := (layD k R G).length) (t := t) hXb hAre
      obtain ⟨ys, q, νR, νI, l3, hyl, hy⟩ := @rough_loop L n (k : Int) (G : Int) R A M ns hs st xs _ _ hx6 hxb (by omega) (by omega)
      rw [hZ] at hx6 hxb hy hxl
      -- both rows are heard
      have mx : ∀ t, mayF (xs.getD t ((0, 0), false)) = true ∧ ptR (xs.getD t ((0, 0), false)) = 64 * calmS (Kp ps) X R M A (2 * (R * 2 ^ k + G)) t ∧ ptI (xs.getD t ((0, 0), false)) = 64 * calmS (Jp ps) X R M A (2 * (R * 2 ^ k + G)) t := fun t => by
        have := hxb t
        exact may_of (hx6 t).1 (hx6 t).2.1 (hx6 t).2.2 (by omega) (by omega)
      have my : ∀ t, mayF (ys.getD t ((0, 0), false)) = true ∧ ptR (ys.getD t ((0, 0), false)) = 64 * calmS (Kp ps) X R M A (2 * (R * 2 ^ k + G)) t + νR t ∧ ptI (ys.getD t ((0, 0), false)) = 64 * calmS (Jp ps) X R M A (2 * (R * 2 ^ k + G)) t + νI t := fun t => by
        have := hxb t
        obtain ⟨a, b, c, d, e⟩ := hy t
        exact may_of a b c (by omega) (by omega)
      have ex := clean_raw (A := A) hk1 hk hR hR8 hG (show 1 ≤ M by omega) hM64 (show xs.length ≤ 65536 by omega) (fun t => (hx6 t).1) (fun t => (mx t).1)
      have ey := clean_raw (A := A) hk1 hk hR hR8 hG (show 1 ≤ M by omega) hM64 (show ys.length ≤ 65536 by omega) (fun t => (hy t).1) (fun t => (my t).1)
      have hmin : min ((A : Int)).toNat 65536 = A := by rw [Int.toNat_natCast]; omega
      have tx : ∀ j, j < M → totR xs k R G A j = ((2 ^ (14 + k) : Nat) : Int) * Kp ps j ∧ totI xs k R G A j = ((2 ^ (14 + k) : Nat) : Int) * Jp ps j := fun j hj => by
        obtain ⟨E1, a1, b1⟩ := @tot_thru (Kp ps) X (fun _ => 0) k R G M A 0 xs ptR hk hM64 hR hMR xA xB xZ xY hxl (fun t => by rw [(mx t).2.1, Int.add_zero]) (fun _ => Nat.le_refl _) j hj
        obtain ⟨E2, a2, b2⟩ := @tot_thru (Jp ps) X (fun _ => 0) k R G M A 0 xs ptI hk hM64 hR hMR xA xB xZ xY hxl (fun t => by rw [(mx t).2.2, Int.add_zero]) (fun _ => Nat.le_refl _) j hj
        have z1 : E1 = 0 := by rw [Nat.mul_zero] at b1; omega
        have z2 : E2 = 0 := by rw [Nat.mul_zero] at b2; omega
        rw [z1, Int.add_zero] at a1
        rw [z2, Int.add_zero] at a2
        exact ⟨a1, a2⟩
      have near : ∀ E : Int, E.natAbs ≤ 2 * 2 ^ k * 4095 → 2 * E.natAbs < 2 ^ (14 + k) := fun E h => by
        rw [Nat.pow_add, show (2 : Nat) ^ 14 = 16384 from rfl]
        have hp : 0 < 2 ^ k := Nat.pow_pos (by decide)
        generalize 2 ^ k = W at *
        omega
      have ty : ∀ j, j < M → tpR k R G ys A j = Kp ps j ∧ tpI k R G ys A j = Jp ps j := fun j hj => by
        obtain ⟨E1, a1, b1⟩ := @tot_thru (Kp ps) X νR k R G M A 4095 ys ptR hk hM64 hR hMR xA xB xZ xY (by rw [hyl, hxl]) (fun t => (my t).2.1) (fun t => (hy t).2.2.2.1) j hj
        obtain ⟨E2, a2, b2⟩ := @tot_thru (Jp ps) X νI k R G M A 4095 ys ptI hk hM64 hR hMR xA xB xZ xY (by rw [hyl, hxl]) (fun t => (my t).2.2) (fun t => (hy t).2.2.2.2) j hj
        unfold tpR tpI
        rw [hmin]
        exact ⟨tap_near hk a1 (near E1 b1), tap_near hk a2 (near E2 b2)⟩
      -- the raw taps
      have cx : cutX (xs.map celS) 0 xs.length = xs.map celS := tkMap rfl
      have cy : cutX (ys.map celS) 0 xs.length = ys.map celS := tkMap hyl.symm
      have hr := spec_is (P := ⟨fnOf, specU, L+1⟩) (C := runF ⟨fnOf, specU, L+1⟩ (n+1)) (f := 27) rfl (rawSem_at false k R G xs A M)
      rw [if_neg (by decide), ex] at hr
      obtain ⟨_, _, hw⟩ := rawW_is k R G xs A M
      generalize rawW (k : Int) R G xs A M = w1 at *
      rcases hw with ⟨_, wl, _, wr, _⟩ | ⟨hno, _⟩
      · have ht := spec_is (P := ⟨fnOf, specU, L+1⟩) (C := runF ⟨fnOf, specU, L+1⟩ (n+1)) (f := 32) rfl (tapSem_at false k R G ys A M)
        have et : tapE k R G ys A M = 0 := by
          unfold tapE
          rw [if_pos ey, if_pos (areT_congr (fun i hi => ty i (by rw [Int.toNat_natCast] at hi; exact hi)) (by rw [Int.toNat_natCast]; exact hAre))]
        rw [if_neg (by decide), et] at ht
        obtain ⟨_, _, hv⟩ := tapW_is k R G ys A M
        generalize tapW (k : Int) R G ys A M = w2 at *
        rcases hv with ⟨_, vl, _, vr, _⟩ | ⟨hno, _⟩
        · obtain ⟨us, uz⟩ := w1
          obtain ⟨vs, vz⟩ := w2
          have wl : us.length = M := wl
          have vl : vs.length = M := vl
          rw [hmin] at wr
          simp only [Int.toNat_natCast] at wr
          have pw : ((2 ^ (14 + k) : Nat) : Int) * 2 ^ (1054 - k) = 2 ^ 1068 := by
            rw [Int.natCast_pow]
            show (2 : Int) ^ (14 + k) * _ = _
            rw [← Int.pow_add, show 14 + k + (1054 - k) = 1068 by omega]
          have same1 := @same14_den specU L n us (tab (tapZ ps) M) (by rw [wl, hHl]) (by omega) (by omega) (fun i hi => by
            obtain ⟨a, b⟩ := wr i hi
            obtain ⟨c, d⟩ := tapZ_is ps i
            obtain ⟨e, f⟩ := tx i (by omega)
            rw [e] at a
            rw [f] at b
            rw [tab_at (by omega), feq_fin a.1 c.1, feq_fin b.1 d.1, a.2, b.2, c.2, d.2]
            refine ⟨decide_eq_true ?_, decide_eq_true ?_⟩
            · rw [Int.mul_comm _ (Kp ps i), Int.mul_assoc, pw]
            · rw [Int.mul_comm _ (Jp ps i), Int.mul_assoc, pw])
          have same2 := @same14_den specU L n vs (tab (tapZ ps) M) (by rw [vl, hHl]) (by omega) (by omega) (fun i hi => by
            obtain ⟨a, b⟩ := vr i hi
            obtain ⟨c, d⟩ := tapZ_is ps i
            obtain ⟨e, f⟩ := ty i (by omega)
            rw [e] at a
            rw [f] at b
            rw [tab_at (by omega), grid6_eq a c, grid6_eq b d]
            exact ⟨decide_eq_true rfl, decide_eq_true rfl⟩)
          have cu : cutX (us.map celC) 0 (List.length (us.map celC)) = us.map celC := cutAll
          have cv : cutX (vs.map celC) 0 (List.length (vs.map celC)) = vs.map celC := cutAll
          have ch : cutX (hs.map celC) 0 M = (tab (tapZ ps) M).map celC := by rw [cutM, hH]
          have zl : ((layD k R G).map celC).length = (layD k R G).length := map_len
          have li : IntKind.wrap .i64 ((A : Int) + (((layD k R G).length : Nat) : Int)) = ((A + (layD k R G).length : Nat) : Int) := by rw [show (A : Int) + (((layD k R G).length : Nat) : Int) = ((A + (layD k R G).length : Nat) : Int) by omega, wrap_id (by omega)]
          have exl : xs.length = A + (layD k R G).length := by rw [hxl, hZ]
          rw [← exl] at l2 li
          have hmk : Con.holds ⟨fnOf, specU, L+1⟩ (runF ⟨fnOf, specU, L+1⟩ (n+1)) (.mk xs.length xs.length true (List.map celS (List.replicate xs.length ((0, 0), false))) (IntKind.wrap .i64 ((IntKind.wrap .i64 (ah.tmod 100 + 100)).tmod 100 + (((layD k R G).map celC).length : Nat))) (IntKind.wrap .i64 ((IntKind.wrap .i64 (ah.tmod 100 + 100)).tmod 100 + (((layD k R G).map celC).length : Nat))) 24 [.cpx 0 0, .v (.bool false)]) := by
            rw [hAv, zl, li]
            exact mk_ok (f := celS) (a := ((0, 0), false)) rfl (by simp only [most]; omega) (by simp only [most]; omega)
          have hcat : Con.holds ⟨fnOf, specU, L+1⟩ (runF ⟨fnOf, specU, L+1⟩ (n+1)) (.cat 2 24 true (cutX (xs.map celS) 0 xs.length)) := by rw [cx]; exact catS_ok (by simp only [most]; omega)
          have lex : ∀ ws : List ((Nat × Nat) × Bool), xs.length ≤ ws.length → Con.holds ⟨fnOf, specU, L+1⟩ (runF ⟨fnOf, specU, L+1⟩ (n+1)) (.le (0 + xs.length) (List.length (ws.map celS))) := fun ws h => by show _ ≤ _; rw [show List.length (ws.map celS) = _ from map_len]; omega
          exact @ttl_4 (L+1) (n+1) k R G ah A ps ns hs [] [] xs ys xs.length (layD k R G).length (2 * M) 0 M xs.length q st [] [] xs.length us 0 vs 0 true true
            hm0 l1 (by simpa using hM0) (by rw [eE]; rfl) (by rw [zl]; exact dF (by omega)) hmk (by rw [hAv]; exact l2) hcat (lex xs (Nat.le_refl _)) (by rw [cx]; rw [show List.length (xs.map celS) = xs.length from map_len]; exact l3) (by rw [cx]; exact hr) (by rw [cy]; exact ht) (lex ys (by omega)) rfl rfl
            (by rw [cu, ch]; exact call_den same1) leOut (by show _ ≤ _; rw [show List.length (hs.map celC) = _ from map_len]; omega) rfl (by rw [cv, ch]; exact call_den same2) leOut
        · exact absurd et hno
      · exact absurd ex hno
  · have hm0 : (!mayB o r g) = true := by cases h : mayB o r g with | true => exact absurd h hmay | false => rfl
    exact @ttl_0 (L+1) (n+1) o r g ah 0 ps ns [] [] [] [] [] 0 0 0 0 0 0 0 [] [] [] hm0
end
end Go.Proofs.Ytldkgfbgndkbdaa.Fw
