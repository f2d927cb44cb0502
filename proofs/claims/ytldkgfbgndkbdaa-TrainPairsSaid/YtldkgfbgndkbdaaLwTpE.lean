/- TrainPairs: the law's run. -/
import Derived.Test.YtldkgfbgndkbdaaLwTpD
set_option maxRecDepth 100000
set_option maxHeartbeats 4000000
set_option linter.unusedSimpArgs false
set_option linter.unusedVariables false
namespace Go.Proofs.Ytldkgfbgndkbdaa.Fw
open Go Go.RowKit
def ovK (v : Int) (cs : List Int) : Nat → List Int
  | 0 => cs
  | i + 1 => (ovK v cs i).set i v
theorem ovK_len {v : Int} {cs : List Int} : ∀ {i : Nat}, (ovK v cs i).length = cs.length
  | 0 => rfl
  | i + 1 => by rw [ovK, List.length_set, ovK_len]
theorem ovK_at {v : Int} {cs : List Int} {m : Nat} : ∀ {i : Nat}, i ≤ m → i ≤ cs.length → (ovK v cs i).getD m 0 = cs.getD m 0
  | 0, _, _ => rfl
  | i + 1, h, h2 => by rw [ovK, getD_sets (by rw [ovK_len]; omega), if_neg (by omega), ovK_at (by omega) (by omega)]
/-- turned and halved -/
def hf (x : Int) : Int := IntKind.wrap .i8 ((IntKind.wrap .i8 (0 - x)).tdiv 2)
def hfW (ys : List Int) : Nat → List Int
  | 0 => ys
  | i + 1 => (hfW ys i).set i (hf ((hfW ys i).getD i 0))
theorem hfW_len {ys : List Int} : ∀ {i : Nat}, (hfW ys i).length = ys.length
  | 0 => rfl
  | i + 1 => by rw [hfW, List.length_set, hfW_len]
theorem hfW_at {ys : List Int} {m : Nat} : ∀ {i : Nat}, i ≤ m → i ≤ ys.length → (hfW ys i).getD m 0 = ys.getD m 0
  | 0, _, _ => rfl
  | i + 1, h, h2 => by rw [hfW, getD_sets (by rw [hfW_len]; omega), if_neg (by omega), hfW_at (by omega) (by omega)]
theorem room1 {o : Nat} (h : o ≤ 140737488355328) : roomOk o 1 := .inl (by simp only [most]; omega)
section
variable {L n : Nat} {x o : Int} {xs us vs : List Int}
/-- the first loop: the pair is overwritten, side by side -/
theorem loop_b4 (hl : us.length = vs.length) (hb : us.length ≤ 256) (hL : 300 ≤ L) :
    Con.holds ⟨fnOf, specQ, L+1⟩ (runF ⟨fnOf, specQ, L+1⟩ n) (.loop 0 [1, 2, 7, 8, 10, 11, 13, 14, 16] m5b4 [56] (tq1 x xs us vs us vs [1, 11] [2, 11] us.length vs.length 16 0) (.exit 0) (tq1 x xs us vs (ovK 9 us us.length) (ovK 8 vs us.length) [1, 11] [2, 11] us.length vs.length 16 us.length)) := by
  have m2 : (vs.map celJ).length = vs.length := map_len
  refine loopX (res := m5.res) (fun i => tq1 x xs us vs (ovK 9 us i) (ovK 8 vs i) [1, 11] [2, 11] us.length vs.length 16 i) us.length rfl (by omega) (fun i hi => ?_) ?_ (by simp)
  · have a1 : Con.holds ⟨fnOf, specQ, L+1⟩ (runF ⟨fnOf, specQ, L+1⟩ n) (.at ((ovK 9 us i).map celJ) (0 + i) [.int .i8 ((ovK 9 us i).getD i 0)]) := by rw [Nat.zero_add]; exact atD_map (f := celJ) (by rw [ovK_len]; exact hi)
    have a2 : Con.holds ⟨fnOf, specQ, L+1⟩ (runF ⟨fnOf, specQ, L+1⟩ n) (.at ((ovK 8 vs i).map celJ) (0 + i) [.int .i8 (vs.getD i 0)]) := by
      rw [Nat.zero_add, ← ovK_at (v := 8) (cs := vs) (m := i) (i := i) (Nat.le_refl _) (by omega)]; exact atD_map (f := celJ) (by rw [ovK_len]; omega)
    have a3 : Con.holds ⟨fnOf, specQ, L+1⟩ (runF ⟨fnOf, specQ, L+1⟩ n) (.at (vs.map celJ) (0 + i) [.int .i8 (vs.getD i 0)]) := by rw [Nat.zero_add]; exact atD_map (f := celJ) (by omega)
    have := @tqb_1 (L+1) n 0 x xs us vs (ovK 9 us i) (ovK 8 vs i) [] [] [] [] [] [] [1, 11] [2, 11] [56] [] us.length vs.length i 0 0 0 0 0 0 0 i ((ovK 9 us i).getD i 0) i (vs.getD i 0) i (vs.getD i 0) i (vs.getD i 0)
      (dLt hi) (ix_at hi) a1 (ix_at (by omega)) a2 (by rw [m2]; exact ix_at (by omega)) a3 bneSame (ix_at (by omega)) a2
    rw [wrapUp hi (by omega), Nat.zero_add] at this
    rw [this]
    unfold tq1
    rw [ovK, ovK, List.map_set, List.map_set]
    rfl
  · exact @tqb_2 (L+1) n 0 x xs us vs (ovK 9 us us.length) (ovK 8 vs us.length) [] [] [] [] [] [] [1, 11] [2, 11] [56] [] us.length vs.length us.length 0 0 0 0 0 0 0 dNlt
/-- the second: both made longer -/
theorem loop_b3 {cs ds : List Int} (hc : cs.length ≤ 256) (hd : ds.length ≤ 256) (hL : 300 ≤ L) :
    ∃ cz dz stc std, Con.holds ⟨fnOf, specQ, L+1⟩ (runF ⟨fnOf, specQ, L+1⟩ n) (.loop 0 [1, 2, 7, 8, 10, 11, 13, 14, 17] m5b3 [58] (tq1 x xs us vs cs ds [1, 11] [2, 11] cs.length ds.length 17 0) (.exit 2) (tq1 x xs us vs cz dz stc std (cs.length + 300) (ds.length + 300) 17 300)) := by
  obtain ⟨s', l2, cz, dz, stc, std, rfl⟩ := loopJ (P := ⟨fnOf, specQ, L+1⟩) (C := runF ⟨fnOf, specQ, L+1⟩ n) (L := L) (d := 0) (live := [1, 2, 7, 8, 10, 11, 13, 14, 17]) (π := [58]) (m := m5b3) (A := tq1 x xs us vs cs ds [1, 11] [2, 11] cs.length ds.length 17 0)
    (fun j s => ∃ cz dz stc std, s = tq1 x xs us vs cz dz stc std (cs.length + j) (ds.length + j) 17 j ∧ cz.length = cs.length + j ∧ dz.length = ds.length + j) (fun s => ∃ cz dz stc std, s = tq1 x xs us vs cz dz stc std (cs.length + 300) (ds.length + 300) 17 300) 300 (x := .exit 2) (by simp) rfl (by omega) ⟨cs, ds, [1, 11], [2, 11], rfl, rfl, rfl⟩
    (fun j s hj hs => by
      obtain ⟨cz, dz, stc, std, rfl, e1, e2⟩ := hs
      have p1 : Con.holds ⟨fnOf, specQ, L+1⟩ (runF ⟨fnOf, specQ, L+1⟩ n) (.push (cs.length + j) 1 1 (cz.map celJ)) := push_ok (by rw [map_len, e1]) (by simp only [most]; omega)
      have p2 : Con.holds ⟨fnOf, specQ, L+1⟩ (runF ⟨fnOf, specQ, L+1⟩ n) (.push (ds.length + j) 1 1 (dz.map celJ)) := push_ok (by rw [map_len, e2]) (by simp only [most]; omega)
      have := @tqc_0 (L+1) n 0 x xs us vs cz dz [] [] [] [] [] [] stc std [58] [] (cs.length + j) (ds.length + j) j 0 0 0 0 0 0 0 (dT (by omega)) p1 p2
      rw [wrapUp hj (by omega)] at this
      refine ⟨_, this, cz ++ [7], dz ++ [6], [4, j, 58], [8, j, 58], ?_, by rw [List.length_append, e1]; rfl, by rw [List.length_append, e2]; rfl⟩
      unfold tq1
      rw [List.map_append, List.map_append]
      rfl)
    (fun s hs => by
      obtain ⟨cz, dz, stc, std, rfl, e1, e2⟩ := hs
      exact ⟨_, @tqc_1 (L+1) n 0 x xs us vs cz dz [] [] [] [] [] [] stc std [58] [] (cs.length + 300) (ds.length + 300) 300 0 0 0 0 0 0 0 (by rfl), cz, dz, stc, std, rfl⟩)
  exact ⟨cz, dz, stc, std, l2⟩
theorem spec_a1 (ys : List Int) : Con.holds ⟨fnOf, specQ, L⟩ (runF ⟨fnOf, specQ, L⟩ n) (.spec 12 [.lst 1 (ys.map celJ)] (autoA ys)) := spec_is (P := ⟨fnOf, specQ, L⟩) (f := 12) rfl (autoSem_at ys)
theorem spec_a2 (ys : List Int) : Con.holds ⟨fnOf, specQ, L⟩ (runF ⟨fnOf, specQ, L⟩ n) (.spec 20 [.lst 1 (ys.map celJ)] (autoA ys)) := spec_is (P := ⟨fnOf, specQ, L⟩) (f := 20) rfl (autoSem_at ys)
theorem autoR_len (ys : List Int) : (autoR ys).length ≤ 4096 ∧ (autoR ys).length ≤ ys.length := by
  unfold autoR
  split
  · exact ⟨Nat.zero_le _, Nat.zero_le _⟩
  · rw [tab_len]; omega
/-- one round of the rows -/
theorem row_round {ys : List Int} {r : Nat} (hr : r < 2) (hy : ys.length = xs.length + 1) (h77 : ys.getD xs.length 0 = 77) (h0 : r = 0 → ∀ k, k < xs.length → ys.getD k 0 = xs.getD k 0) (hm : xs.length ≤ 140737488351232) (hL : xs.length + 5000 ≤ L) :
    seeZ 0 [1, 2, 18, 19] m5.res (bodyOf ⟨fnOf, specQ, L+1⟩ (runF ⟨fnOf, specQ, L+1⟩ n) 0 m5b2 (r :: [84]) (tq2 x xs ys (xs.length + 1) r)) = some (.go .nrm (tq2 x xs (hfW ys xs.length) (xs.length + 1) (r + 1))) := by
  have hl : (xs.map celJ).length = xs.length := map_len
  have htl : (ys.take xs.length).length = xs.length := by rw [List.length_take, hy]; omega
  obtain ⟨b1, b2⟩ := autoR_len (ys.take xs.length)
  rw [htl] at b2
  have s1 := @spec_a1 (L+1) n (ys.take xs.length)
  have s2 := @spec_a2 (L+1) n (ys.take xs.length)
  unfold autoA at s1 s2
  generalize autoR (ys.take xs.length) = ws at *
  generalize autoE (ys.take xs.length) = e at *
  have mw : (ws.map celI).length = ws.length := map_len
  have cN : cutX ((ys.take xs.length).map celJ) 0 (List.length ((ys.take xs.length).map celJ)) = (ys.take xs.length).map celJ := cutAll
  have cY : cutX (ys.map celJ) 0 xs.length = (ys.take xs.length).map celJ := cutM
  have hcat : Con.holds ⟨fnOf, specQ, L+1⟩ (runF ⟨fnOf, specQ, L+1⟩ n) (.cat 1 1 true ((ys.take xs.length).map celJ)) := cat_ok2 (fun _ => ⟨rfl, rfl⟩) (fun _ => rfl) (room1 (by omega))
  have hle : Con.holds ⟨fnOf, specQ, L+1⟩ (runF ⟨fnOf, specQ, L+1⟩ n) (.le (0 + xs.length) (List.length (ys.map celJ))) := by show _ ≤ _; rw [map_len, hy]; omega
  have hsl : Con.holds ⟨fnOf, specQ, L+1⟩ (runF ⟨fnOf, specQ, L+1⟩ n) (.sl (some 1) (.slc ⟨0,126,0⟩ [81] 1 0 (xs.length + 1) false) none (some (.int .i64 ((xs.length : Nat) : Int))) none (.slc ⟨0,126,0⟩ [81] 1 0 xs.length false)) := sl_zero (by omega)
  have h78 : Con.holds ⟨fnOf, specQ, L+1⟩ (runF ⟨fnOf, specQ, L+1⟩ n) (.at (ys.map celJ) (0 + xs.length) [.int .i8 77]) := by
    rw [Nat.zero_add, ← h77]; exact atD_map (f := celJ) (by omega)
  have l1 : Con.holds ⟨fnOf, specQ, L+1⟩ (runF ⟨fnOf, specQ, L+1⟩ n) (.loop 0 [1, 2, 18, 19, 20, 22, 24] m5b1 ([43, r] ++ [84]) (tq3 x xs ys (xs.length + 1) r ws ws ws.length ws.length ([1, 8, r] ++ [84]) ([1, 18, r] ++ [84]) 0) (.exit 6) (tq3 x xs ys (xs.length + 1) r ws ws ws.length ws.length ([1, 8, r] ++ [84]) ([1, 18, r] ++ [84]) ws.length)) := by
    refine loopX (res := m5.res) (fun k => tq3 x xs ys (xs.length + 1) r ws ws ws.length ws.length ([1, 8, r] ++ [84]) ([1, 18, r] ++ [84]) k) ws.length rfl (by omega) (fun k hk => ?_) ?_ (by simp)
    · have a1 : Con.holds ⟨fnOf, specQ, L+1⟩ (runF ⟨fnOf, specQ, L+1⟩ n) (.at (ws.map celI) (0 + k) [.int .i64 (ws.getD k 0)]) := by rw [Nat.zero_add]; exact atD_map (f := celI) hk
      by_cases hr0 : r = 0
      · have a2 : Con.holds ⟨fnOf, specQ, L+1⟩ (runF ⟨fnOf, specQ, L+1⟩ n) (.at (ys.map celJ) (0 + k) [.int .i8 (xs.getD k 0)]) := by rw [Nat.zero_add, ← h0 hr0 k (by omega)]; exact atD_map (f := celJ) (by omega)
        have := @tqd_2 (L+1) n 0 x xs [] [] [] [] [] [] ys ws ws [] ([1, 8, r] ++ [84]) ([1, 18, r] ++ [84]) [] ([43, r] ++ [84]) 0 0 0 0 0 (xs.length + 1) r k ws.length ws.length k (ws.getD k 0) k (ws.getD k 0) k (xs.getD k 0) (xs.getD k 0)
          (dLt hk) (ix_at hk) a1 (ix_at hk) a1 bneSame (by rw [hr0]; rfl) (ix_at (by omega)) a2 (elD_map (f := celJ) (by omega)) bneSame
        rw [wrapUp hk (by omega)] at this
        exact this
      · have := @tqd_3 (L+1) n 0 x xs [] [] [] [] [] [] ys ws ws [] ([1, 8, r] ++ [84]) ([1, 18, r] ++ [84]) [] ([43, r] ++ [84]) 0 0 0 0 0 (xs.length + 1) r k ws.length ws.length k (ws.getD k 0) k (ws.getD k 0)
          (dLt hk) (ix_at hk) a1 (ix_at hk) a1 bneSame (by simp; omega)
        rw [wrapUp hk (by omega)] at this
        exact this
    · exact @tqd_4 (L+1) n 0 x xs [] [] [] [] [] [] ys ws ws [] ([1, 8, r] ++ [84]) ([1, 18, r] ++ [84]) [] ([43, r] ++ [84]) 0 0 0 0 0 (xs.length + 1) r ws.length ws.length ws.length dNlt
  have l2 : Con.holds ⟨fnOf, specQ, L+1⟩ (runF ⟨fnOf, specQ, L+1⟩ n) (.loop 0 [1, 2, 18, 19, 25] m5b0 ([45, r] ++ [84]) (tq4 x xs ys (xs.length + 1) r 0) (.exit 8) (tq4 x xs (hfW ys xs.length) (xs.length + 1) r xs.length)) := by
    refine loop0 (fun k => tq4 x xs (hfW ys k) (xs.length + 1) r k) xs.length rfl (by omega) (fun k hk => ?_) ?_ (by simp)
    · have a1 : Con.holds ⟨fnOf, specQ, L+1⟩ (runF ⟨fnOf, specQ, L+1⟩ n) (.at ((hfW ys k).map celJ) (0 + k) [.int .i8 ((hfW ys k).getD k 0)]) := by rw [Nat.zero_add]; exact atD_map (f := celJ) (by rw [hfW_len]; omega)
      have := @tqe_0 (L+1) n 0 x xs [] [] [] [] [] [] (hfW ys k) [] [] [] [] [] [] ([45, r] ++ [84]) 0 0 0 0 0 (xs.length + 1) r k 0 0 k ((hfW ys k).getD k 0) k ((hfW ys k).getD k 0)
        (by rw [hl]; exact dLt hk) (ix_at (by omega)) a1 (ix_at (by omega)) a1
      rw [wrapUp hk (by omega), Nat.zero_add] at this
      rw [this]
      unfold tq4
      rw [hfW, List.map_set]
      rfl
    · exact @tqe_1 (L+1) n 0 x xs [] [] [] [] [] [] (hfW ys xs.length) [] [] [] [] [] [] ([45, r] ++ [84]) 0 0 0 0 0 (xs.length + 1) r xs.length 0 0 (by rw [hl]; exact dNlt)
  have := @tqr_3 (L+1) n 0 x xs [] [] [] [] [] [] ys ws ws (hfW ys xs.length) [] [] [84] [] 0 0 r xs.length xs.length (xs.length + 1) 0 ws.length ws.length ws.length ws e ws e xs.length 77
    (dT (by omega)) (by rw [hl]; exact hsl) (by rw [cY]; exact hcat) hle (by rw [cY, cN]; exact s2) leOut (by rw [cY]; exact s1) bneSame bneSame (by rw [hl]; exact ix_at (by omega)) h78 rfl (by rw [mw]; exact l1) l2
  rw [wrapUp hr (by omega)] at this
  exact this
theorem law_pairs (hm : xs.length ≤ 140737488351232) (hL : xs.length + 5000 ≤ L) :
    den ⟨fnOf, specQ, L+1⟩ (n+2) 5 [.int .i64 o, .lst 1 (xs.map celJ), .int .u64 x] = some (.v (.bool true)) := by
  obtain ⟨p1, p2⟩ := prs_same o
  have g1 := call_den (@signs_den specQ L n (prsU o) (by omega) (by omega))
  have g2 := call_den (@signs_den specQ L n (prsV o) (by omega) (by omega))
  have key := fun (cs ds cz dz ys : List Int) (stc std : List Nat) (nc nd i nw ng : Nat) => @tql_8 (L+1) (n+1) o x xs (prsU o) (prsV o) cs ds cz dz ys [] [] [] stc std [] [] nc nd i 0 300 (xs.length + 1) 0 0 nw ng true true true true true true
  have q := stp_same (canon x.toNat)
  generalize prsU o = us at *
  generalize prsV o = vs at *
  have m1 : (us.map celJ).length = us.length := map_len
  have m2 : (vs.map celJ).length = vs.length := map_len
  have l4 := @loop_b4 L (n+1) x xs us vs p1 p2 (by omega)
  have c9 : (ovK 9 us us.length).length = us.length := ovK_len
  have c8 : (ovK 8 vs us.length).length = vs.length := ovK_len
  generalize ovK 9 us us.length = cs at l4 c9
  generalize ovK 8 vs us.length = ds at l4 c8
  obtain ⟨cz, dz, stc, std, l3⟩ := @loop_b3 L (n+1) x xs us vs cs ds (by omega) (by omega) (by omega)
  rw [c9, c8] at l3
  have hl : (xs.map celJ).length = xs.length := map_len
  have cU : cutX (us.map celJ) 0 (List.length (us.map celJ)) = us.map celJ := cutAll
  have cV : cutX (vs.map celJ) 0 (List.length (vs.map celJ)) = vs.map celJ := cutAll
  have hcat : Con.holds ⟨fnOf, specQ, L+1⟩ (runF ⟨fnOf, specQ, L+1⟩ (n+1)) (.cat 1 1 true (xs.map celJ)) := cat_ok2 (fun _ => ⟨rfl, rfl⟩) (fun _ => rfl) (room1 (by omega))
  have hpu : Con.holds ⟨fnOf, specQ, L+1⟩ (runF ⟨fnOf, specQ, L+1⟩ (n+1)) (.push (List.length (xs.map celJ)) 1 1 (xs.map celJ)) := push_ok2 rfl (room1 (by rw [hl]; omega))
  have e1 : (xs.map celJ) ++ [[AV.int .i8 77]] = (xs ++ [77]).map celJ := by rw [List.map_append]; rfl
  have y1 : (xs ++ [(77 : Int)]).length = xs.length + 1 := by rw [List.length_append]; rfl
  have y2 : (xs ++ [(77 : Int)]).getD xs.length 0 = 77 := by rw [getD_apps, if_neg (Nat.lt_irrefl _), Nat.sub_self]; rfl
  have y3 : ∀ k, k < xs.length → (xs ++ [(77 : Int)]).getD k 0 = xs.getD k 0 := fun k hk => by rw [getD_apps, if_pos hk]
  have z1 : (hfW (xs ++ [77]) xs.length).length = xs.length + 1 := by rw [hfW_len, y1]
  have z2 : (hfW (xs ++ [77]) xs.length).getD xs.length 0 = 77 := by rw [hfW_at (Nat.le_refl _) (by omega), y2]
  have r0 := @row_round L (n+1) x xs (xs ++ [77]) 0 (by decide) y1 y2 (fun _ => y3) hm hL
  have r1 := @row_round L (n+1) x xs (hfW (xs ++ [77]) xs.length) 1 (by decide) z1 z2 (fun h => by omega) hm hL
  have l2 : Con.holds ⟨fnOf, specQ, L+1⟩ (runF ⟨fnOf, specQ, L+1⟩ (n+1)) (.loop 0 [1, 2, 18, 19] m5b2 [84] (tq2 x xs (xs ++ [77]) (xs.length + 1) 0) (.exit 4) (tq2 x xs (hfW (hfW (xs ++ [77]) xs.length) xs.length) (xs.length + 1) 2)) := by
    refine loopX (res := m5.res) (fun r => tq2 x xs (match r with | 0 => xs ++ [77] | 1 => hfW (xs ++ [77]) xs.length | _ => hfW (hfW (xs ++ [77]) xs.length) xs.length) (xs.length + 1) r) 2 rfl (by omega) (fun r hr => ?_) ?_ (by simp)
    · match r, hr with
      | 0, _ => exact r0
      | 1, _ => exact r1
    · exact @tqr_4 (L+1) (n+1) o x xs us vs [] [] [] [] (hfW (hfW (xs ++ [77]) xs.length) xs.length) [] [] [] [] [] [84] [] 0 0 2 0 0 (xs.length + 1) 0 0 0 0 (by rfl)
  have no0 : (!true) = false := rfl
  have hsum : decide (IntKind.wrap .i64 (((us.length + 300 : Nat) : Int) + ((vs.length + 300 : Nat) : Int)) < 600) = false := by rw [wrap_id (by omega)]; exact dF (by omega)
  unfold tq1 at l4 l3
  rw [m1, m2] at l4 l3
  unfold tq2 at l2
  have := key cs ds cz dz (hfW (hfW (xs ++ [77]) xs.length) xs.length) stc std us.length vs.length us.length (us.length + 300) (vs.length + 300) bneSame (by rw [cU]; exact g1) leOut no0 (by rw [cV]; exact g2) leOut no0 (by rw [cU]; exact g1) no0 (by rw [cV]; exact g2) no0
    (by rw [m1, m2]; exact l4) (by rw [m1, m2]; exact l3) (by rw [cU]; exact g1) no0 (by rw [cV]; exact g2) no0 hsum hcat hpu (by rw [e1, hl]; exact l2) q
  rw [this]
  have e : (stpE (canon x.toNat) == stpE (canon x.toNat)) = true := by simp
  rw [e]
end
end Go.Proofs.Ytldkgfbgndkbdaa.Fw
