/- HuntBack: whatever the numbers, the row, the size, the quarters and the delay: undone it is itself, and the turned, later row's marker is the turned, later one; it holds at every input. -/
import Derived.Test.YtnccnmeecngopaaLwBkD
set_option maxRecDepth 100000
set_option maxHeartbeats 4000000
set_option linter.unusedSimpArgs false
set_option linter.unusedVariables false
namespace Go.Proofs.Ytnccnmeecngopaa.Fw
open Go Go.RowKit
theorem works28' {K m : Nat} : den ⟨fnOf, specS, K+20⟩ (m+20) 28 [] = some (.v (.bool true)) := by kernel_rfl
theorem nil36b {fr tt : Int} {H : Heap} {C : Caller} {L : Nat} (h1 : fr = 0) (h2 : tt = 0) : Con.holds ⟨fnOf, specS, L⟩ C (.any 0 [23] (MO.mk (some 36) (.slice (some 2) (.t 33) (some (.t 34)) (some (.t 35)) none) none []) [(33, .nils), (34, .int .i64 fr), (35, .int .i64 tt)] H .nils H) := by
  subst h1 h2
  rfl
theorem nil19b {K m : Nat} : den ⟨fnOf, specS, K+6⟩ (m+1) 19 [.nils, .int .i64 0, .int .i64 0] = some (.tup [.agg [.int .i64 0, .flt 0, .int .i64 0], .int .i64 6]) :=
  @fdnil_3 (K+1) m 0 0 (dF (by decide)) (dF (by decide)) (dF (by decide)) (nil36b rfl rfl)
section
variable {K m : Nat} {re im size quarters late : Int} {xs : List Int}
theorem b0x0 {L n q : Nat} {la : Int} : ∃ w0 w1 w2 w3 w4 w5 w6 w7 w8 w9,
    Con.holds ⟨fnOf, specS, L+1⟩ (runF ⟨fnOf, specS, L+1⟩ n) (.loop 0 [4, 5, 14, 19, 20, 22] m8b0 [62] ⟨bkE .nils la q .nils .nils ++ [(22, .int .i64 0)], [], 0⟩ (.exit 2) ⟨[(96, w0), (95, w1), (94, w2), (93, w3), (92, w4), (91, w5), (90, w6), (89, w7), (88, w8), (87, w9)] ++ bkE .nils la q .nils .nils ++ [(22, .int .i64 0)], [], 10⟩) := by
  have h := @br0n_0 (L+1) n la q 0 [] 0 [62] (dF (by rw [wrap_id (by omega)]; omega))
  exact ⟨_, _, _, _, _, _, _, _, _, _, loop0 (fun _ => ⟨bkE .nils la q .nils .nils ++ [(22, .int .i64 0)], [], 0⟩) 0 rfl (Nat.zero_le _) (fun i hi => absurd hi (by omega)) h (by simp)⟩
theorem b0x1 {L n q l0 : Nat} {la : Int} : ∃ w0 w1 w2 w3 w4 w5 w6 w7 w8 w9,
    Con.holds ⟨fnOf, specS, L+1⟩ (runF ⟨fnOf, specS, L+1⟩ n) (.loop 0 [4, 5, 14, 19, 20, 22] m8b0 [62] ⟨bkE .nils la q .nils (bkB 86 [6, l0, 60] (l0 + 1)) ++ [(22, .int .i64 0)], bkH 86 [6, l0, 60] (List.replicate (l0 + 1) [.cpx 0 0, .v (.bool false)]), 0⟩ (.exit 2) ⟨[(96, w0), (95, w1), (94, w2), (93, w3), (92, w4), (91, w5), (90, w6), (89, w7), (88, w8), (87, w9)] ++ bkE .nils la q .nils (bkB 86 [6, l0, 60] (l0 + 1)) ++ [(22, .int .i64 0)], bkH 86 [6, l0, 60] (List.replicate (l0 + 1) [.cpx 0 0, .v (.bool false)]), 10⟩) := by
  have h := @br0m_0 (L+1) n la q 0 [] 0 [62] [6, l0, 60] (l0 + 1) (List.replicate (l0 + 1) [.cpx 0 0, .v (.bool false)]) (dF (by rw [wrap_id (by omega)]; omega))
  exact ⟨_, _, _, _, _, _, _, _, _, _, loop0 (fun _ => ⟨bkE .nils la q .nils (bkB 86 [6, l0, 60] (l0 + 1)) ++ [(22, .int .i64 0)], bkH 86 [6, l0, 60] (List.replicate (l0 + 1) [.cpx 0 0, .v (.bool false)]), 0⟩) 0 rfl (Nat.zero_le _) (fun i hi => absurd hi (by omega)) h (by simp)⟩
theorem zeros19 {k : Nat} (hk : k ≤ 100) : den ⟨fnOf, specS, K+700⟩ (m+20) 19 [.lst 2 (cutX (List.replicate k [.cpx 0 0, .v (.bool false)]) 0 k), .int .i64 0, .int .i64 (k : Nat)] = some (.tup [.agg [.int .i64 0, .flt 0, .int .i64 0], .int .i64 6]) := by
  have h := @find_none (K+699) (m+19) (List.replicate k zS) 0 k (by rw [List.length_replicate]; omega) (by rw [List.length_replicate]; omega) (by omega) (by rw [List.length_replicate]; exact Nat.le_refl _) fun i hi _ _ => by rw [List.getElem_replicate]; exact zero_quiet
  have e : cutX (List.replicate k [AV.cpx 0 0, AV.v (.bool false)]) 0 k = (List.replicate k zS).map celS := by
    rw [List.map_replicate]
    exact List.take_of_length_le (by rw [List.length_replicate]; exact Nat.le_refl _)
  rw [e]
  exact h
theorem law8e (h1 : xs.length ≤ 1) : den ⟨fnOf, specS, K+700⟩ (m+21) 8 [.int .i64 re, .int .i64 im, .int .i64 size, .int .i64 quarters, (XL xs), .int .i64 late] = some (.v (.bool true)) := by
  obtain ⟨q, hq, hqe⟩ := @quart quarters
  obtain ⟨l, hl, hle⟩ := @lateN late
  obtain ⟨sh, hsh, h34⟩ := @any34 (K+700) size (runF ⟨fnOf, specS, K+700⟩ (m+20)) []
  obtain ⟨gr, br⟩ := pz_grid re
  obtain ⟨gi, bi⟩ := pz_grid im
  obtain ⟨ba, bb, h16, fa, fb⟩ := @undo_back (K+695) (m+19) q (pz re, pz im, false) (re.tmod 4194305, im.tmod 4194305) sh hq hsh gr gi (by show (re.tmod 4194305).natAbs < _; omega) (by show (im.tmod 4194305).natAbs < _; omega)
  have h30 := @tr_den (K+695) (m+19) q (pz re, pz im, false) hq
  have h4 : (!(feq ba (pz re) && feq bb (pz im))) = false := by
    have e1 : feq ba (pz re) = true := fa
    have e2 : feq bb (pz im) = true := fb
    rw [e1, e2]; rfl
  cases l with
  | zero =>
    have h5 := @b1_loop0_l (K+699) (m+20) q xs
    obtain ⟨w0, w1, w2, w3, w4, w5, w6, w7, w8, w9, h6⟩ := @b0_none0 (K+694) (m+19) q xs ((0 : Nat) : Int) h1
    exact @bk8c_3 (K+700) (m+20) re im size quarters late 0 0 0 0 0 6 ((0 : Nat) : Int) q sh _ _ ba bb 0 0 0 0 0 (xs.map celI) [] [] [] [] [] false w0 w1 w2 w3 w4 w5 w6 w7 w8 w9 (call_den works28') h34 (by rw [hqe]; exact call_den h30) (by rw [hqe]; exact call_den h16) h4 (by rw [hle, hqe]; exact h5) h6 (call_den (@nil19b (K+694) (m+19))) (call_den (@nil19b (K+694) (m+19))) bneSame (by decide) beqSame
  | succ l0 =>
    have h5 := @b1_loop1_l (K+699) (m+20) q xs l0 (by omega) (by omega)
    obtain ⟨w0, w1, w2, w3, w4, w5, w6, w7, w8, w9, h6⟩ := @b0_none1 (K+694) (m+19) q xs ((l0 + 1 : Nat) : Int) l0 h1
    have hz := @zeros19 K m (l0 + 1) (by omega)
    exact @bk8d_3 (K+700) (m+20) re im size quarters late 0 0 0 0 0 6 ((l0 + 1 : Nat) : Int) q sh _ _ ba bb 0 0 0 0 0 (xs.map celI) [] [] [] [] [6, l0, 60] false w0 w1 w2 w3 w4 w5 w6 w7 w8 w9 (call_den works28') h34 (by rw [hqe]; exact call_den h30) (by rw [hqe]; exact call_den h16) h4 (by rw [hle, hqe]; exact h5) h6 (call_den (@nil19b (K+694) (m+19))) (call_den hz) (by show _ ≤ _; rw [List.length_replicate]; omega) bneSame (by decide) beqSame
theorem law8x : den ⟨fnOf, specS, K+700⟩ (m+21) 8 [.int .i64 re, .int .i64 im, .int .i64 size, .int .i64 quarters, .nils, .int .i64 late] = some (.v (.bool true)) := by
  obtain ⟨q, hq, hqe⟩ := @quart quarters
  obtain ⟨l, hl, hle⟩ := @lateN late
  obtain ⟨sh, hsh, h34⟩ := @any34 (K+700) size (runF ⟨fnOf, specS, K+700⟩ (m+20)) []
  obtain ⟨gr, br⟩ := pz_grid re
  obtain ⟨gi, bi⟩ := pz_grid im
  obtain ⟨ba, bb, h16, fa, fb⟩ := @undo_back (K+695) (m+19) q (pz re, pz im, false) (re.tmod 4194305, im.tmod 4194305) sh hq hsh gr gi (by show (re.tmod 4194305).natAbs < _; omega) (by show (im.tmod 4194305).natAbs < _; omega)
  have h30 := @tr_den (K+695) (m+19) q (pz re, pz im, false) hq
  have h4 : (!(feq ba (pz re) && feq bb (pz im))) = false := by
    have e1 : feq ba (pz re) = true := fa
    have e2 : feq bb (pz im) = true := fb
    rw [e1, e2]; rfl
  cases l with
  | zero =>
    have h5 := @b1_loop0_x (K+699) (m+20) q
    obtain ⟨w0, w1, w2, w3, w4, w5, w6, w7, w8, w9, h6⟩ := @b0x0 (K+699) (m+20) q ((0 : Nat) : Int)
    exact @bk8cn_3 (K+700) (m+20) re im size quarters late 0 0 0 0 0 6 ((0 : Nat) : Int) q sh _ _ ba bb 0 0 0 0 0 [] [] [] [] [] [] false w0 w1 w2 w3 w4 w5 w6 w7 w8 w9 (call_den works28') h34 (by rw [hqe]; exact call_den h30) (by rw [hqe]; exact call_den h16) h4 (by rw [hle, hqe]; exact h5) h6 (call_den (@nil19b (K+694) (m+19))) (call_den (@nil19b (K+694) (m+19))) bneSame (by decide) beqSame
  | succ l0 =>
    have h5 := @b1_loop1_x (K+699) (m+20) q l0 (by omega) (by omega)
    obtain ⟨w0, w1, w2, w3, w4, w5, w6, w7, w8, w9, h6⟩ := @b0x1 (K+699) (m+20) q l0 ((l0 + 1 : Nat) : Int)
    have hz := @zeros19 K m (l0 + 1) (by omega)
    exact @bk8dn_3 (K+700) (m+20) re im size quarters late 0 0 0 0 0 6 ((l0 + 1 : Nat) : Int) q sh _ _ ba bb 0 0 0 0 0 [] [] [] [] [] [6, l0, 60] false w0 w1 w2 w3 w4 w5 w6 w7 w8 w9 (call_den works28') h34 (by rw [hqe]; exact call_den h30) (by rw [hqe]; exact call_den h16) h4 (by rw [hle, hqe]; exact h5) h6 (call_den (@nil19b (K+694) (m+19))) (call_den hz) (by show _ ≤ _; rw [List.length_replicate]; omega) bneSame (by decide) beqSame
theorem law8n (h2 : 2 ≤ xs.length) (hm : xs.length ≤ 17592186044000) : den ⟨fnOf, specS, K+700⟩ (m+21) 8 [.int .i64 re, .int .i64 im, .int .i64 size, .int .i64 quarters, (XL xs), .int .i64 late] = some (.v (.bool true)) := by
  obtain ⟨q, hq, hqe⟩ := @quart quarters
  obtain ⟨l, hl, hle⟩ := @lateN late
  obtain ⟨sh, hsh, h34⟩ := @any34 (K+700) size (runF ⟨fnOf, specS, K+700⟩ (m+20)) []
  obtain ⟨gr, br⟩ := pz_grid re
  obtain ⟨gi, bi⟩ := pz_grid im
  obtain ⟨ba, bb, h16, fa, fb⟩ := @undo_back (K+695) (m+19) q (pz re, pz im, false) (re.tmod 4194305, im.tmod 4194305) sh hq hsh gr gi (by show (re.tmod 4194305).natAbs < _; omega) (by show (im.tmod 4194305).natAbs < _; omega)
  have h30 := @tr_den (K+695) (m+19) q (pz re, pz im, false) hq
  have h4 : (!(feq ba (pz re) && feq bb (pz im))) = false := by
    have e1 : feq ba (pz re) = true := fa
    have e2 : feq bb (pz im) = true := fb
    rw [e1, e2]; rfl
  obtain ⟨m0, hx⟩ : ∃ m0, m0 + 1 = min (xs.length / 2) 500 := ⟨min (xs.length / 2) 500 - 1, by omega⟩
  obtain ⟨ra, hra⟩ : ∃ ra, ra = (prz xs).take (m0 + 1) := ⟨_, rfl⟩
  have hrl : ra.length = m0 + 1 := by rw [hra, List.length_take, prz_len]; omega
  have hgr : ∀ s ∈ ra, Gr s := by rw [hra]; exact prz_gr
  have hla : (ra.map celS).length = m0 + 1 := by rw [List.length_map, hrl]
  cases l with
  | zero =>
    have h5 := @b1_loop0_l (K+699) (m+20) q xs
    obtain ⟨w0, w1, w2, w3, w4, w5, w6, w7, w8, w9, h6⟩ := @b0_loop0 (K+694) (m+19) q xs ((0 : Nat) : Int) m0 hm hq hx (by omega)
    rw [← hra] at h6
    have hlb : ((List.replicate 0 zS ++ ra.map (trz q)).map celS).length = m0 + 1 := by rw [List.length_map, List.length_append, List.length_replicate, List.length_map, hrl]; exact Nat.zero_add _
    have h6' : Con.holds ⟨fnOf, specS, K+700⟩ (runF ⟨fnOf, specS, K+700⟩ (m+20)) (.loop 0 [4, 5, 14, 19, 20, 22] m8b0 [62] (b0A0 xs ((0 : Nat) : Int) q 0) (.exit 2) ⟨[(96, w0), (95, w1), (94, w2), (93, w3), (92, w4), (91, w5), (90, w6), (89, w7), (88, w8), (87, w9)] ++ bkE (XL xs) ((0 : Nat) : Int) q (bkA [31, m0, 62] (ra.map celS).length) (bkB 126 [39, m0, 62] ((List.replicate 0 zS ++ ra.map (trz q)).map celS).length) ++ [(22, .int .i64 ((2 * (m0 + 1) : Nat) : Int))],
        bkH 119 [31, m0, 62] (ra.map celS) ++ bkH 126 [39, m0, 62] ((List.replicate 0 zS ++ ra.map (trz q)).map celS), 10⟩) := by
      rw [hla, hlb]
      exact h6
    rcases @find_ab (K+699) (m+19) ra q 0 hgr hq (by omega) (by omega) (by omega) with ⟨f1, f2⟩ | ⟨k, hk, z, g1, g2, g3, f1, f2⟩
    · have f1' := f1
      have f2' := f2
      have hn1 : ra.length = (ra.map celS).length := (List.length_map ..).symm
      have hn2 : (List.replicate 0 zS ++ ra.map (trz q)).length = ((List.replicate 0 zS ++ ra.map (trz q)).map celS).length := (List.length_map ..).symm
      rw [← cutAll (els := ra.map celS), hn1] at f1'
      rw [← cutAll (els := (List.replicate 0 zS ++ ra.map (trz q)).map celS), hn2] at f2'
      exact @bk8a_3 (K+700) (m+20) re im size quarters late ((2 * (m0 + 1) : Nat) : Int) 0 0 0 0 6 ((0 : Nat) : Int) q sh _ _ ba bb 0 0 0 0 0 (xs.map celI) (ra.map celS) ((List.replicate 0 zS ++ ra.map (trz q)).map celS) [31, m0, 62] [39, m0, 62] [] false w0 w1 w2 w3 w4 w5 w6 w7 w8 w9 (call_den works28') h34 (by rw [hqe]; exact call_den h30) (by rw [hqe]; exact call_den h16) h4 (by rw [hle, hqe]; exact h5) h6' (call_den f1') leOut (call_den f2') leOut bneSame (by decide) beqSame
    · have f1' := f1
      have f2' := f2
      have hn1 : ra.length = (ra.map celS).length := (List.length_map ..).symm
      have hn2 : (List.replicate 0 zS ++ ra.map (trz q)).length = ((List.replicate 0 zS ++ ra.map (trz q)).map celS).length := (List.length_map ..).symm
      rw [← cutAll (els := ra.map celS), hn1] at f1'
      rw [← cutAll (els := (List.replicate 0 zS ++ ra.map (trz q)).map celS), hn2] at f2'
      have e1 := grid_eq g1 g2
      have e2 := grid_eq g1 (grid_neg g2)
      have hs : feq (szG (max z.1.natAbs z.2.natAbs)) (szG (max z.1.natAbs z.2.natAbs)) = true := by
        unfold szG
        cases decide (393216 ≤ max z.1.natAbs z.2.natAbs) <;> cases decide (196608 ≤ max z.1.natAbs z.2.natAbs) <;> kernel_rfl
      have h18 : (((0 + k : Nat) : Int) == IntKind.wrap .i64 ((k : Int) + ((0 : Nat) : Int))) = true := by
        rw [wrap_id (by omega)]
        have : ((0 + k : Nat) : Int) = (k : Int) + ((0 : Nat) : Int) := by omega
        rw [this]; exact beqSame
      by_cases c1 : z.1 = z.2
      · rw [decide_eq_true c1] at e1
        exact @bk8a_7 (K+700) (m+20) re im size quarters late ((2 * (m0 + 1) : Nat) : Int) (k : Nat) (qI z.1 z.2) ((0 + k : Nat) : Int) (qI (trI q z).1 (trI q z).2) 0 ((0 : Nat) : Int) q sh _ _ ba bb (szG (max z.1.natAbs z.2.natAbs)) (szG (max z.1.natAbs z.2.natAbs)) k ra[k].1 ra[k].2.1 (xs.map celI) (ra.map celS) ((List.replicate 0 zS ++ ra.map (trz q)).map celS) [31, m0, 62] [39, m0, 62] [] ra[k].2.2 w0 w1 w2 w3 w4 w5 w6 w7 w8 w9 (call_den works28') h34 (by rw [hqe]; exact call_den h30) (by rw [hqe]; exact call_den h16) h4 (by rw [hle, hqe]; exact h5) h6' (call_den f1') leOut (call_den f2') leOut bneSame rfl (dF (by omega)) (dF (by rw [hla]; omega)) (ix_at (by rw [hla]; omega)) (by show _ = _; rw [Nat.zero_add]; exact map_at hk) e1 h18 hs
      · rw [decide_eq_false c1] at e1
        by_cases c2 : z.1 = -z.2
        · rw [decide_eq_true c2] at e2
          exact @bk8a_10 (K+700) (m+20) re im size quarters late ((2 * (m0 + 1) : Nat) : Int) (k : Nat) (qI z.1 z.2) ((0 + k : Nat) : Int) (qI (trI q z).1 (trI q z).2) 0 ((0 : Nat) : Int) q sh _ _ ba bb (szG (max z.1.natAbs z.2.natAbs)) (szG (max z.1.natAbs z.2.natAbs)) k ra[k].1 ra[k].2.1 (xs.map celI) (ra.map celS) ((List.replicate 0 zS ++ ra.map (trz q)).map celS) [31, m0, 62] [39, m0, 62] [] ra[k].2.2 w0 w1 w2 w3 w4 w5 w6 w7 w8 w9 (call_den works28') h34 (by rw [hqe]; exact call_den h30) (by rw [hqe]; exact call_den h16) h4 (by rw [hle, hqe]; exact h5) h6' (call_den f1') leOut (call_den f2') leOut bneSame rfl (dF (by omega)) (dF (by rw [hla]; omega)) (ix_at (by rw [hla]; omega)) (by show _ = _; rw [Nat.zero_add]; exact map_at hk) e1 h18 hs e2
        · rw [decide_eq_false c2] at e2
          have := @bk8a_11 (K+700) (m+20) re im size quarters late ((2 * (m0 + 1) : Nat) : Int) (k : Nat) (qI z.1 z.2) ((0 + k : Nat) : Int) (qI (trI q z).1 (trI q z).2) 0 ((0 : Nat) : Int) q sh _ _ ba bb (szG (max z.1.natAbs z.2.natAbs)) (szG (max z.1.natAbs z.2.natAbs)) k ra[k].1 ra[k].2.1 (xs.map celI) (ra.map celS) ((List.replicate 0 zS ++ ra.map (trz q)).map celS) [31, m0, 62] [39, m0, 62] [] ra[k].2.2 w0 w1 w2 w3 w4 w5 w6 w7 w8 w9 (call_den works28') h34 (by rw [hqe]; exact call_den h30) (by rw [hqe]; exact call_den h16) h4 (by rw [hle, hqe]; exact h5) h6' (call_den f1') leOut (call_den f2') leOut bneSame rfl (dF (by omega)) (dF (by rw [hla]; omega)) (ix_at (by rw [hla]; omega)) (by show _ = _; rw [Nat.zero_add]; exact map_at hk) e1 h18 hs e2
          rw [this, qI_turn hq (by omega)]
          have hb : 0 ≤ qI z.1 z.2 ∧ qI z.1 z.2 ≤ 3 := by unfold qI; split <;> split <;> omega
          rw [wrap_id (by omega), beqSame]
  | succ l0 =>
    have h5 := @b1_loop1_l (K+699) (m+20) q xs l0 (by omega) (by omega)
    obtain ⟨w0, w1, w2, w3, w4, w5, w6, w7, w8, w9, h6⟩ := @b0_loop1 (K+694) (m+19) q xs (((l0 + 1) : Nat) : Int) l0 m0 hm (by omega) hq hx (by omega)
    rw [← hra] at h6
    have hlb : ((List.replicate (l0 + 1) zS ++ ra.map (trz q)).map celS).length = l0 + 1 + (m0 + 1) := by rw [List.length_map, List.length_append, List.length_replicate, List.length_map, hrl]
    have h6' : Con.holds ⟨fnOf, specS, K+700⟩ (runF ⟨fnOf, specS, K+700⟩ (m+20)) (.loop 0 [4, 5, 14, 19, 20, 22] m8b0 [62] (b0A1 xs (((l0 + 1) : Nat) : Int) q l0 0) (.exit 2) ⟨[(96, w0), (95, w1), (94, w2), (93, w3), (92, w4), (91, w5), (90, w6), (89, w7), (88, w8), (87, w9)] ++ bkE (XL xs) (((l0 + 1) : Nat) : Int) q (bkA [31, m0, 62] (ra.map celS).length) (bkB 86 [39, m0, 62] ((List.replicate (l0 + 1) zS ++ ra.map (trz q)).map celS).length) ++ [(22, .int .i64 ((2 * (m0 + 1) : Nat) : Int))],
        bkH 86 [39, m0, 62] ((List.replicate (l0 + 1) zS ++ ra.map (trz q)).map celS) ++ bkH 119 [31, m0, 62] (ra.map celS), 10⟩) := by
      rw [hla, hlb]
      rw [List.map_append, List.map_replicate]; exact h6
    rcases @find_ab (K+699) (m+19) ra q (l0 + 1) hgr hq (by omega) (by omega) (by omega) with ⟨f1, f2⟩ | ⟨k, hk, z, g1, g2, g3, f1, f2⟩
    · have f1' := f1
      have f2' := f2
      have hn1 : ra.length = (ra.map celS).length := (List.length_map ..).symm
      have hn2 : (List.replicate (l0 + 1) zS ++ ra.map (trz q)).length = ((List.replicate (l0 + 1) zS ++ ra.map (trz q)).map celS).length := (List.length_map ..).symm
      rw [← cutAll (els := ra.map celS), hn1] at f1'
      rw [← cutAll (els := (List.replicate (l0 + 1) zS ++ ra.map (trz q)).map celS), hn2] at f2'
      exact @bk8b_3 (K+700) (m+20) re im size quarters late ((2 * (m0 + 1) : Nat) : Int) 0 0 0 0 6 (((l0 + 1) : Nat) : Int) q sh _ _ ba bb 0 0 0 0 0 (xs.map celI) (ra.map celS) ((List.replicate (l0 + 1) zS ++ ra.map (trz q)).map celS) [31, m0, 62] [39, m0, 62] [6, l0, 60] false w0 w1 w2 w3 w4 w5 w6 w7 w8 w9 (call_den works28') h34 (by rw [hqe]; exact call_den h30) (by rw [hqe]; exact call_den h16) h4 (by rw [hle, hqe]; exact h5) h6' (call_den f1') leOut (call_den f2') leOut bneSame (by decide) beqSame
    · have f1' := f1
      have f2' := f2
      have hn1 : ra.length = (ra.map celS).length := (List.length_map ..).symm
      have hn2 : (List.replicate (l0 + 1) zS ++ ra.map (trz q)).length = ((List.replicate (l0 + 1) zS ++ ra.map (trz q)).map celS).length := (List.length_map ..).symm
      rw [← cutAll (els := ra.map celS), hn1] at f1'
      rw [← cutAll (els := (List.replicate (l0 + 1) zS ++ ra.map (trz q)).map celS), hn2] at f2'
      have e1 := grid_eq g1 g2
      have e2 := grid_eq g1 (grid_neg g2)
      have hs : feq (szG (max z.1.natAbs z.2.natAbs)) (szG (max z.1.natAbs z.2.natAbs)) = true := by
        unfold szG
        cases decide (393216 ≤ max z.1.natAbs z.2.natAbs) <;> cases decide (196608 ≤ max z.1.natAbs z.2.natAbs) <;> kernel_rfl
      have h18 : ((((l0 + 1) + k : Nat) : Int) == IntKind.wrap .i64 ((k : Int) + (((l0 + 1) : Nat) : Int))) = true := by
        rw [wrap_id (by omega)]
        have : (((l0 + 1) + k : Nat) : Int) = (k : Int) + (((l0 + 1) : Nat) : Int) := by omega
        rw [this]; exact beqSame
      by_cases c1 : z.1 = z.2
      · rw [decide_eq_true c1] at e1
        exact @bk8b_7 (K+700) (m+20) re im size quarters late ((2 * (m0 + 1) : Nat) : Int) (k : Nat) (qI z.1 z.2) (((l0 + 1) + k : Nat) : Int) (qI (trI q z).1 (trI q z).2) 0 (((l0 + 1) : Nat) : Int) q sh _ _ ba bb (szG (max z.1.natAbs z.2.natAbs)) (szG (max z.1.natAbs z.2.natAbs)) k ra[k].1 ra[k].2.1 (xs.map celI) (ra.map celS) ((List.replicate (l0 + 1) zS ++ ra.map (trz q)).map celS) [31, m0, 62] [39, m0, 62] [6, l0, 60] ra[k].2.2 w0 w1 w2 w3 w4 w5 w6 w7 w8 w9 (call_den works28') h34 (by rw [hqe]; exact call_den h30) (by rw [hqe]; exact call_den h16) h4 (by rw [hle, hqe]; exact h5) h6' (call_den f1') leOut (call_den f2') leOut bneSame rfl (dF (by omega)) (dF (by rw [hla]; omega)) (ix_at (by rw [hla]; omega)) (by show _ = _; rw [Nat.zero_add]; exact map_at hk) e1 h18 hs
      · rw [decide_eq_false c1] at e1
        by_cases c2 : z.1 = -z.2
        · rw [decide_eq_true c2] at e2
          exact @bk8b_10 (K+700) (m+20) re im size quarters late ((2 * (m0 + 1) : Nat) : Int) (k : Nat) (qI z.1 z.2) (((l0 + 1) + k : Nat) : Int) (qI (trI q z).1 (trI q z).2) 0 (((l0 + 1) : Nat) : Int) q sh _ _ ba bb (szG (max z.1.natAbs z.2.natAbs)) (szG (max z.1.natAbs z.2.natAbs)) k ra[k].1 ra[k].2.1 (xs.map celI) (ra.map celS) ((List.replicate (l0 + 1) zS ++ ra.map (trz q)).map celS) [31, m0, 62] [39, m0, 62] [6, l0, 60] ra[k].2.2 w0 w1 w2 w3 w4 w5 w6 w7 w8 w9 (call_den works28') h34 (by rw [hqe]; exact call_den h30) (by rw [hqe]; exact call_den h16) h4 (by rw [hle, hqe]; exact h5) h6' (call_den f1') leOut (call_den f2') leOut bneSame rfl (dF (by omega)) (dF (by rw [hla]; omega)) (ix_at (by rw [hla]; omega)) (by show _ = _; rw [Nat.zero_add]; exact map_at hk) e1 h18 hs e2
        · rw [decide_eq_false c2] at e2
          have := @bk8b_11 (K+700) (m+20) re im size quarters late ((2 * (m0 + 1) : Nat) : Int) (k : Nat) (qI z.1 z.2) (((l0 + 1) + k : Nat) : Int) (qI (trI q z).1 (trI q z).2) 0 (((l0 + 1) : Nat) : Int) q sh _ _ ba bb (szG (max z.1.natAbs z.2.natAbs)) (szG (max z.1.natAbs z.2.natAbs)) k ra[k].1 ra[k].2.1 (xs.map celI) (ra.map celS) ((List.replicate (l0 + 1) zS ++ ra.map (trz q)).map celS) [31, m0, 62] [39, m0, 62] [6, l0, 60] ra[k].2.2 w0 w1 w2 w3 w4 w5 w6 w7 w8 w9 (call_den works28') h34 (by rw [hqe]; exact call_den h30) (by rw [hqe]; exact call_den h16) h4 (by rw [hle, hqe]; exact h5) h6' (call_den f1') leOut (call_den f2') leOut bneSame rfl (dF (by omega)) (dF (by rw [hla]; omega)) (ix_at (by rw [hla]; omega)) (by show _ = _; rw [Nat.zero_add]; exact map_at hk) e1 h18 hs e2
          rw [this, qI_turn hq (by omega)]
          have hb : 0 ≤ qI z.1 z.2 ∧ qI z.1 z.2 ≤ 3 := by unfold qI; split <;> split <;> omega
          rw [wrap_id (by omega), beqSame]
end
/-- what the law is handed -/
theorem fits8 {avs : List AV} (h : FitsVs Try.prog 8 Try.f8.params.toList avs) : ∃ (x22 : Int) (x27 : Int) (x32 : Int) (x37 : Int) (a42 : AV) (x51 : Int), avs = [AV.v (.int .i64 x22), AV.v (.int .i64 x27), AV.v (.int .i64 x32), AV.v (.int .i64 x37), a42, AV.v (.int .i64 x51)] ∧ (Lit.int .i64 x22).wf = true ∧ (Lit.int .i64 x27).wf = true ∧ (Lit.int .i64 x32).wf = true ∧ (Lit.int .i64 x37).wf = true ∧ (a42 = AV.nils ∨ ∃ els : List (List AV), a42 = AV.lst 1 els ∧ els.length * 8 ≤ reachBytes ∧ ∀ e44 ∈ els, ∃ (x46 : Int), e44 = [AV.v (.int .i64 x46)] ∧ (Lit.int .i64 x46).wf = true) ∧ (Lit.int .i64 x51).wf = true := by
  replace h : FitsVs Try.prog 8 [3, 3, 3, 3, 22, 3] avs := by rw [Try.params8] at h; exact h
  obtain ⟨a1, r2, rfl, h3, h⟩ := fitsVs_cons h
  obtain ⟨a4, r5, rfl, h6, h⟩ := fitsVs_cons h
  obtain ⟨a7, r8, rfl, h9, h⟩ := fitsVs_cons h
  obtain ⟨a10, r11, rfl, h12, h⟩ := fitsVs_cons h
  obtain ⟨a13, r14, rfl, h15, h⟩ := fitsVs_cons h
  obtain ⟨a16, r17, rfl, h18, h⟩ := fitsVs_cons h
  obtain rfl := fitsVs_nil h
  have h19 := fitsV_int Try.underlying3 h3
  obtain ⟨c20, h21⟩ : ∃ c, c = [a1] := ⟨_, rfl⟩
  rw [← h21] at h19
  obtain ⟨x22, rfl, w23⟩ := fits_int (n := 7) Try.underlying3 h19
  obtain rfl := one_inj h21
  have h24 := fitsV_int Try.underlying3 h6
  obtain ⟨c25, h26⟩ : ∃ c, c = [a4] := ⟨_, rfl⟩
  rw [← h26] at h24
  obtain ⟨x27, rfl, w28⟩ := fits_int (n := 7) Try.underlying3 h24
  obtain rfl := one_inj h26
  have h29 := fitsV_int Try.underlying3 h9
  obtain ⟨c30, h31⟩ : ∃ c, c = [a7] := ⟨_, rfl⟩
  rw [← h31] at h29
  obtain ⟨x32, rfl, w33⟩ := fits_int (n := 7) Try.underlying3 h29
  obtain rfl := one_inj h31
  have h34 := fitsV_int Try.underlying3 h12
  obtain ⟨c35, h36⟩ : ∃ c, c = [a10] := ⟨_, rfl⟩
  rw [← h36] at h34
  obtain ⟨x37, rfl, w38⟩ := fits_int (n := 7) Try.underlying3 h34
  obtain rfl := one_inj h36
  have h39 := fitsV_slice Try.underlying22 h15
  obtain ⟨c40, h41⟩ : ∃ c, c = [a13] := ⟨_, rfl⟩
  rw [← h41] at h39
  obtain ⟨a42, rfl, w43⟩ : ∃ (a42 : AV), _ = [a42] ∧ (a42 = AV.nils ∨ ∃ els : List (List AV), a42 = AV.lst 1 els ∧ els.length * 8 ≤ reachBytes ∧ ∀ e44 ∈ els, ∃ (x46 : Int), e44 = [AV.v (.int .i64 x46)] ∧ (Lit.int .i64 x46).wf = true) := by
    rcases fits_slice (n := 7) Try.underlying22 h39 with hh | ⟨els, hh, h1, h2⟩
    · exact ⟨_, hh, .inl rfl⟩
    · refine ⟨_, hh, .inr ⟨els, ?_, ?_, fun e44 he => ?_⟩⟩
      · rw [show Try.prog.cellsOf 3 = 1 by kernel_rfl]
      · rw [show Try.prog.bytesOf 3 = 8 by kernel_rfl] at h1; exact h1
      · have h45 := h2 _ he
        obtain ⟨x46, rfl, w47⟩ := fits_int (n := 6) Try.underlying3 h45
        exact ⟨x46, rfl, w47⟩
  obtain rfl := one_inj h41
  have h48 := fitsV_int Try.underlying3 h18
  obtain ⟨c49, h50⟩ : ∃ c, c = [a16] := ⟨_, rfl⟩
  rw [← h50] at h48
  obtain ⟨x51, rfl, w52⟩ := fits_int (n := 7) Try.underlying3 h48
  obtain rfl := one_inj h50
  exact ⟨x22, x27, x32, x37, a42, x51, rfl, w23, w28, w33, w38, w43, w52⟩

theorem calls8 {avs : List AV} {W : World} {args : Array Value} (h : FitsVs Try.prog 8 Try.f8.params.toList avs) (hr : RelL (ρ0 fun _ => False) old0 W avs args.toList) :
    Calls Try.prog 8 args W fun e w' => e = .returned (.bool true) ∧ Below W.heap.size W w' := by
  obtain ⟨re, im, size, quarters, l, late, rfl, hx⟩ := fits8 h
  obtain ⟨_, _, _, _, hb, _⟩ := hx
  rcases hb with rfl | ⟨els, rfl, hl, he⟩
  · exact law (spec_s _) (law8x (K := 0) (m := 0)) hr
  · obtain ⟨xs, rfl⟩ := all_map (f := celI) (fun e h => by obtain ⟨a, rfl, _⟩ := he e h; exact ⟨a, rfl⟩)
    rw [List.length_map] at hl
    by_cases h2 : 2 ≤ xs.length
    · have hm : xs.length ≤ 17592186044000 := by
        have : reachBytes = 140737488351232 := by kernel_rfl
        omega
      exact law (spec_s _) (law8n (K := 0) (m := 0) h2 hm) hr
    · exact law (spec_s _) (law8e (K := 0) (m := 0) (by omega)) hr
end Go.Proofs.Ytnccnmeecngopaa.Fw
namespace Go.Proofs.Ytnccnmeecngopaa
open Go.ChangeShapes Go.WideShapes Go.ChangeAt Go.RowKit Fw
theorem back_lifted (os : Os) (started : os.Started) (H : Type) (enc : TypeId × Value → H) :
    ReturnsInHanded {} Try.checked os 8 .any (Rows.huntBackSpec.pre6 enc Try.prog Try.f8 Rows.huntBackRow.domain false) (Rows.huntBackSpec.post enc Try.prog Try.f8 false true false false) := by
  refine law_lifted (C := Try.checked) (n := 8) (tb := 4) own started (by kernel_rfl) Try.func8
    (ChangeSpec.witness6 (enc := enc) (C := Try.checked) false ⟨#[], #[.int .i64 0, .int .i64 0, .int .i64 0, .int .i64 0, .slice none 0 0, .int .i64 0], []⟩ 8 (by kernel_rfl) (by kernel_rfl) (by kernel_rfl) (by kernel_rfl))
    laidOut (by kernel_rfl) (by kernel_rfl) rfl ?_ rfl Try.underlying4 fun _ _ _ h hr => calls8 h hr
  intro ds hd
  have hd : ds.length = 6 := hd
  rcases ds with _ | ⟨a, _ | ⟨b, _ | ⟨c, _ | ⟨d, _ | ⟨e, _ | ⟨f, _ | ⟨g, r⟩⟩⟩⟩⟩⟩⟩ <;> simp at hd
  rfl
theorem back_holds : Rows.HuntBackSaid :=
  OpenClaim.holds_of_wide 8 Try.f8 rfl rfl rfl rfl rfl rfl rfl ⟨rfl, rfl, rfl, rfl, rfl⟩ rfl rfl rfl rfl rfl (by kernel_rfl) Try.func8 (by kernel_rfl)
    (of_decide_eq_true (by kernel_rfl)) (by unfold Func.isWrapper; first | (rw [if_pos (by decide +kernel)]; kernel_rfl) | (rw [if_neg (by decide +kernel)]; exact ⟨rfl, rfl⟩))
    (fun os started H enc _ => back_lifted os started H enc)
end Go.Proofs.Ytnccnmeecngopaa
