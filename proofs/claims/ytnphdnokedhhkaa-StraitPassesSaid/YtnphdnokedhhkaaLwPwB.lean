/- StraitPasses: the law's own run. -/
import Derived.Test.YtnphdnokedhhkaaLwPwA
set_option maxRecDepth 100000
set_option maxHeartbeats 4000000
set_option linter.unusedSimpArgs false
set_option linter.unusedVariables false
namespace Go.Proofs.Ytnphdnokedhhkaa.Fw
open Go Go.RowKit
def okW (ln : Nat) (ws : List (Nat × Nat)) : Prop := ws.length = ln + 2 ∧ ws.getD ln (0, 0) = (4635118810238550016, 0) ∧ ws.getD (ln + 1) (0, 0) = (0, 4635189178982727680)
theorem okW_set {ln i : Nat} {ws : List (Nat × Nat)} {z : Nat × Nat} (h : okW ln ws) (hi : i < ln) : okW ln (ws.set i z) := by
  obtain ⟨h1, h2, h3⟩ := h
  refine ⟨by rw [List.length_set, h1], ?_, ?_⟩
  · rw [getD_sets (by omega), if_neg (by omega), h2]
  · rw [getD_sets (by omega), if_neg (by omega), h3]
section
variable {L n : Nat} {nn at1 rate delay att r d : Int} {re im odd : Nat} {ts es : List Int} {ta ea zl ws ov : List (Nat × Nat)} {la ln no j : Nat}
theorem overW {π τ : List Nat} {us vs cs : List (Nat × Nat)} {nu nv nc : Nat} (hu : us.length = nu) (hm : nu ≤ 100000) (hL : nu ≤ L) :
    ∃ us2, Con.holds ⟨fnOf, specY, L+1⟩ (runF ⟨fnOf, specY, L+1⟩ n) (.loop 0 [3, 4, 5, 6, 7, 15, 16, 17, 18, 19, 20, 23, 25, 27, 29] m4b2 τ (pwA nn at1 rate delay att r d re im odd ts es ta ea zl ws ov la ln no j us vs cs nu nv nc π 0) (.exit 2) (pwA nn at1 rate delay att r d re im odd ts es ta ea zl ws ov la ln no j us2 vs cs nu nv nc π nu)) := by
  obtain ⟨s', g1, us2, rfl, g2⟩ := loopJ (P := ⟨fnOf, specY, L+1⟩) (C := runF ⟨fnOf, specY, L+1⟩ n) (L := L) (d := 0) (live := [3, 4, 5, 6, 7, 15, 16, 17, 18, 19, 20, 23, 25, 27, 29]) (π := τ) (m := m4b2) (A := pwA nn at1 rate delay att r d re im odd ts es ta ea zl ws ov la ln no j us vs cs nu nv nc π 0)
    (fun i s => ∃ us2 : List (Nat × Nat), s = pwA nn at1 rate delay att r d re im odd ts es ta ea zl ws ov la ln no j us2 vs cs nu nv nc π i ∧ us2.length = nu) (fun s => ∃ us2 : List (Nat × Nat), s = pwA nn at1 rate delay att r d re im odd ts es ta ea zl ws ov la ln no j us2 vs cs nu nv nc π nu ∧ us2.length = nu) nu (x := .exit 2) (by simp) rfl hL ⟨us, rfl, hu⟩
    (fun i s hi hs => by
      obtain ⟨us2, rfl, h2⟩ := hs
      have a1 : Con.holds ⟨fnOf, specY, L+1⟩ (runF ⟨fnOf, specY, L+1⟩ n) (.at (us2.map celC) (0 + i) [.cpx (us2.getD i (0, 0)).1 (us2.getD i (0, 0)).2]) := by
        rw [Nat.zero_add]; exact atD_map (f := celC) (by omega)
      have := @ka_0 L.succ n nn at1 rate delay att r d re im odd ts es [] [] ta ea zl ws ov [] [] la ln no j i π τ us2 vs cs nu nv nc 0 0 i (us2.getD i (0, 0)) (dLt hi) (ix_at hi) a1
      rw [wrap_id (n := (i : Int) + 1) (by omega)] at this
      refine ⟨_, this, us2.set i (4636666922610458624, 0), ?_, by rw [List.length_set, h2]⟩
      unfold pwA
      rw [← map_set, Nat.zero_add]
      rfl)
    (fun s hs => by
      obtain ⟨us2, rfl, h2⟩ := hs
      exact ⟨_, @ka_1 L.succ n nn at1 rate delay att r d re im odd ts es [] [] ta ea zl ws ov [] [] la ln no j nu π τ us2 vs cs nu nv nc 0 0 dNlt, us2, rfl, h2⟩)
  exact ⟨us2, g1⟩
theorem turnW {τ : List Nat} (hw : okW ln ws) (hm : ln ≤ 140737488355328) (hL : ln ≤ L) :
    ∃ wz, okW ln wz ∧ Con.holds ⟨fnOf, specY, L+1⟩ (runF ⟨fnOf, specY, L+1⟩ n) (.loop 0 [3, 4, 5, 6, 7, 15, 16, 17, 18, 19, 20, 30] m4b1 τ (pwB nn at1 rate delay att r d re im odd ts es ta ea zl ws ov la ln no j 0) (.exit 4) (pwB nn at1 rate delay att r d re im odd ts es ta ea zl wz ov la ln no j ln)) := by
  obtain ⟨s', g1, wz, rfl, g2⟩ := loopJ (P := ⟨fnOf, specY, L+1⟩) (C := runF ⟨fnOf, specY, L+1⟩ n) (L := L) (d := 0) (live := [3, 4, 5, 6, 7, 15, 16, 17, 18, 19, 20, 30]) (π := τ) (m := m4b1) (A := pwB nn at1 rate delay att r d re im odd ts es ta ea zl ws ov la ln no j 0)
    (fun i s => ∃ wz : List (Nat × Nat), s = pwB nn at1 rate delay att r d re im odd ts es ta ea zl wz ov la ln no j i ∧ okW ln wz) (fun s => ∃ wz : List (Nat × Nat), s = pwB nn at1 rate delay att r d re im odd ts es ta ea zl wz ov la ln no j ln ∧ okW ln wz) ln (x := .exit 4) (by simp) rfl hL ⟨ws, rfl, hw⟩
    (fun i s hi hs => by
      obtain ⟨wz, rfl, h2⟩ := hs
      have hl := h2.1
      have a1 : Con.holds ⟨fnOf, specY, L+1⟩ (runF ⟨fnOf, specY, L+1⟩ n) (.at (wz.map celC) (0 + i) [.cpx (wz.getD i (0, 0)).1 (wz.getD i (0, 0)).2]) := by
        rw [Nat.zero_add]; exact atD_map (f := celC) (by omega)
      have := @kb_0 L.succ n nn at1 rate delay att r d re im odd ts es [] [] ta ea zl wz ov [] [] la ln no j i [] τ [] [] [] 0 0 0 0 0 i (wz.getD i (0, 0)) i (wz.getD i (0, 0)) i (wz.getD i (0, 0)) (dLt hi) (ix_at hi) a1 (ix_at hi) a1 (ix_at hi) a1
      rw [wrap_id (n := (i : Int) + 1) (by omega)] at this
      refine ⟨_, this, wz.set i (fneg (wz.getD i (0, 0)).2, (wz.getD i (0, 0)).1), ?_, okW_set h2 hi⟩
      unfold pwB
      rw [← map_set, Nat.zero_add]
      rfl)
    (fun s hs => by
      obtain ⟨wz, rfl, h2⟩ := hs
      exact ⟨_, @kb_1 L.succ n nn at1 rate delay att r d re im odd ts es [] [] ta ea zl wz ov [] [] la ln no j ln [] τ [] [] [] 0 0 0 0 0 dNlt, wz, rfl, h2⟩)
  exact ⟨wz, g2, g1⟩
theorem swapW {τ : List Nat} (hw : ov.length = no) (hm : no ≤ 140737488355328) (hL : no ≤ L) :
    ∃ oz : List (Nat × Nat), oz.length = no ∧ Con.holds ⟨fnOf, specY, L+1⟩ (runF ⟨fnOf, specY, L+1⟩ n) (.loop 0 [3, 4, 5, 6, 7, 15, 16, 17, 18, 19, 20, 31] m4b0 τ (pwC nn at1 rate delay att r d re im odd ts es ta ea zl ws ov la ln no j 0) (.exit 6) (pwC nn at1 rate delay att r d re im odd ts es ta ea zl ws oz la ln no j no)) := by
  obtain ⟨s', g1, oz, rfl, g2⟩ := loopJ (P := ⟨fnOf, specY, L+1⟩) (C := runF ⟨fnOf, specY, L+1⟩ n) (L := L) (d := 0) (live := [3, 4, 5, 6, 7, 15, 16, 17, 18, 19, 20, 31]) (π := τ) (m := m4b0) (A := pwC nn at1 rate delay att r d re im odd ts es ta ea zl ws ov la ln no j 0)
    (fun i s => ∃ oz : List (Nat × Nat), s = pwC nn at1 rate delay att r d re im odd ts es ta ea zl ws oz la ln no j i ∧ oz.length = no) (fun s => ∃ oz : List (Nat × Nat), s = pwC nn at1 rate delay att r d re im odd ts es ta ea zl ws oz la ln no j no ∧ oz.length = no) no (x := .exit 6) (by simp) rfl hL ⟨ov, rfl, hw⟩
    (fun i s hi hs => by
      obtain ⟨oz, rfl, h2⟩ := hs
      have a1 : Con.holds ⟨fnOf, specY, L+1⟩ (runF ⟨fnOf, specY, L+1⟩ n) (.at (oz.map celC) (0 + i) [.cpx (oz.getD i (0, 0)).1 (oz.getD i (0, 0)).2]) := by
        rw [Nat.zero_add]; exact atD_map (f := celC) (by omega)
      have := @kc_0 L.succ n nn at1 rate delay att r d re im odd ts es [] [] ta ea zl ws oz [] [] la ln no j i [] τ [] [] [] 0 0 0 0 0 i (oz.getD i (0, 0)) i (oz.getD i (0, 0)) i (oz.getD i (0, 0)) (dLt hi) (ix_at hi) a1 (ix_at hi) a1 (ix_at hi) a1
      rw [wrap_id (n := (i : Int) + 1) (by omega)] at this
      refine ⟨_, this, oz.set i ((oz.getD i (0, 0)).2, (oz.getD i (0, 0)).1), ?_, by rw [List.length_set, h2]⟩
      unfold pwC
      rw [← map_set, Nat.zero_add]
      rfl)
    (fun s hs => by
      obtain ⟨oz, rfl, h2⟩ := hs
      exact ⟨_, @kc_1 L.succ n nn at1 rate delay att r d re im odd ts es [] [] ta ea zl ws oz [] [] la ln no j no [] τ [] [] [] 0 0 0 0 0 dNlt, oz, rfl, h2⟩)
  exact ⟨oz, g2, g1⟩
theorem points_told {P : Prog} {C : Caller} (hp : P.spec = specY) {us vs : List (Nat × Nat)} (hm : shortL us) (h : likeC us vs) :
    Con.holds P C (.spec 21 [.lst 1 (us.map celC), .lst 1 (vs.map celC)] (.v (.bool true))) := by
  unfold shortL at hm
  refine spec_is (g := fun avs => den ⟨fnOf, specK, 20000000000001⟩ 1 21 avs) (by rw [hp]; rfl) ?_
  exact @points_like 20000000000000 0 us vs (by omega) hm h
theorem pass_told {P : Prog} {C : Caller} (hp : P.spec = specY) {r d nn : Int} {ta ea xs vs : List (Nat × Nat)} (h1 : shortL ta) (h2 : shortL ea) (h3 : shortL xs) (h4 : shortL vs) :
    Con.holds P C (.spec 19 [.agg [.int .i64 r, .int .i64 d, .lst 1 (ta.map celC), .lst 1 (ea.map celC)], .lst 1 (xs.map celC), .lst 1 (vs.map celC), .int .i64 nn] (pasQ (passE r d nn ta ea xs vs) (passP r d nn ta ea xs vs))) ∧
    Con.holds P C (.spec 20 [.agg [.int .i64 r, .int .i64 d, .lst 1 (ta.map celC), .lst 1 (ea.map celC)], .lst 1 (xs.map celC), .lst 1 (vs.map celC), .int .i64 nn] (pasQ (passE r d nn ta ea xs vs) (passD r d nn ta ea xs vs))) :=
  ⟨spec_is (g := pasSem false) (by rw [hp]; rfl) (pasSem_at false h1 h2 h3 h4), spec_is (g := pasSem true) (by rw [hp]; rfl) (pasSem_at true h1 h2 h3 h4)⟩
theorem pass_short {r d nn : Int} {ta ea xs vs : List (Nat × Nat)} : (if passE r d nn ta ea xs vs = 0 then passP r d nn ta ea xs vs else []).length ≤ 65536 ∧ (if passE r d nn ta ea xs vs = 0 then passD r d nn ta ea xs vs else []).length ≤ 65536 := by
  by_cases h : passE r d nn ta ea xs vs = 0
  · rw [if_pos h, if_pos h]
    obtain ⟨h1, h2, h3, _⟩ := pass_same h
    omega
  · rw [if_neg h, if_neg h]; exact ⟨Nat.zero_le _, Nat.zero_le _⟩
theorem roundW (hj : j < 3) (hk : okW ln ws) (hz : zl.length = ln) (hla : la = ln + 2) (ho : ov.length = no) (hm : ln ≤ 8796093022207) (hmo : no ≤ 8796093022207) (k1 : shortL ta) (k2 : shortL ea) (hL : ln + no + 100000 ≤ L) :
    ∃ w2 o2 : List (Nat × Nat), okW ln w2 ∧ o2.length = no ∧ seeZ 0 [3, 4, 5, 6, 7, 15, 16, 17, 18, 19, 20] m4.res (bodyOf ⟨fnOf, specY, L+1⟩ (runF ⟨fnOf, specY, L+1⟩ n) 0 m4b3 (j :: [24]) (pwR nn at1 rate delay att r d re im odd ts es ta ea zl ws ov la ln no j)) = some (.go .nrm (pwR nn at1 rate delay att r d re im odd ts es ta ea zl w2 o2 la ln no (j + 1))) := by
  have hwl := hk.1
  have hW : (ws.take ln).length = ln := by rw [List.length_take]; omega
  have cw : cutX (ws.map celC) 0 ln = (ws.take ln).map celC := cutM
  have co : cutX (ov.map celC) 0 no = ov.map celC := by rw [cutM, List.take_of_length_le (by omega)]
  have cu : ∀ l : List (Nat × Nat), cutX (l.map celC) 0 (l.map celC).length = l.map celC := fun l => by rw [cutM, List.take_of_length_le (by rw [map_len]; exact Nat.le_refl _)]
  generalize ws.take ln = W at *
  have sW : shortL W := by unfold shortL; omega
  have sO : shortL ov := by unfold shortL; omega
  obtain ⟨p1, p2⟩ := @pass_told ⟨fnOf, specY, L+1⟩ (runF ⟨fnOf, specY, L+1⟩ n) rfl r d nn ta ea W ov k1 k2 sW sO
  have lk := pass_like r d nn ta ea W ov
  obtain ⟨l1, l2⟩ := @pass_short r d nn ta ea W ov
  unfold pasQ at p1 p2
  generalize (if passE r d nn ta ea W ov = 0 then passP r d nn ta ea W ov else []) = us at *
  generalize (if passE r d nn ta ea W ov = 0 then passD r d nn ta ea W ov else []) = cs at *
  have q1 := @points_told ⟨fnOf, specY, L+1⟩ (runF ⟨fnOf, specY, L+1⟩ n) rfl us cs (by unfold shortL; omega) lk
  have q2 := @points_told ⟨fnOf, specY, L+1⟩ (runF ⟨fnOf, specY, L+1⟩ n) rfl W W sW (likeC_self W)
  have q3 := @points_told ⟨fnOf, specY, L+1⟩ (runF ⟨fnOf, specY, L+1⟩ n) rfl ov ov sO (likeC_self ov)
  have hul : (us.map celC).length = us.length := map_len
  have hcl : (cs.map celC).length = cs.length := map_len
  have hzl : (zl.map celC).length = ln := by rw [show (zl.map celC).length = zl.length from map_len, hz]
  obtain ⟨us2, ga⟩ := @overW L n nn at1 rate delay att r d re im odd ts es ta ea zl ws ov la ln no j [24] ([79, j] ++ [24]) us us cs (us.map celC).length (us.map celC).length (cs.map celC).length hul.symm (by omega) (by omega)
  obtain ⟨wz, hwz, gb⟩ := @turnW L n nn at1 rate delay att r d re im odd ts es ta ea zl ws ov la ln no j ([85, j] ++ [24]) hk (by omega) (by omega)
  obtain ⟨oz, hoz, gc⟩ := @swapW L n nn at1 rate delay att r d re im odd ts es ta ea zl wz ov la ln no j ([87, j] ++ [24]) ho (by omega) (by omega)
  have b0 : decide ((j : Int) < 3) = true := dT (by omega)
  have h1 : Con.holds ⟨fnOf, specY, L+1⟩ (runF ⟨fnOf, specY, L+1⟩ n) (.cat 1 16 true (cutX (ws.map celC) 0 ln)) := by rw [cw]; exact catC_ok (by rw [hW]; simp only [most]; omega)
  have h2 : Con.holds ⟨fnOf, specY, L+1⟩ (runF ⟨fnOf, specY, L+1⟩ n) (.le (0 + ln) (ws.map celC).length) := by show _ ≤ _; rw [show (ws.map celC).length = ws.length from map_len]; omega
  have h3 : Con.holds ⟨fnOf, specY, L+1⟩ (runF ⟨fnOf, specY, L+1⟩ n) (.cat 1 16 true (cutX (ov.map celC) 0 no)) := by rw [co]; exact catC_ok (by rw [ho]; simp only [most]; omega)
  have h4 : Con.holds ⟨fnOf, specY, L+1⟩ (runF ⟨fnOf, specY, L+1⟩ n) (.le (0 + no) (ov.map celC).length) := by show _ ≤ _; rw [show (ov.map celC).length = ov.length from map_len]; omega
  have i1 : Con.holds ⟨fnOf, specY, L+1⟩ (runF ⟨fnOf, specY, L+1⟩ n) (.ix (.int .i64 ((zl.map celC).length : Int)) la ln) := by rw [hzl]; exact ix_at (by omega)
  have a1 : Con.holds ⟨fnOf, specY, L+1⟩ (runF ⟨fnOf, specY, L+1⟩ n) (.at (ws.map celC) (0 + ln) [.cpx ((4635118810238550016, 0) : Nat × Nat).1 ((4635118810238550016, 0) : Nat × Nat).2]) := by
    rw [Nat.zero_add, ← hk.2.1]; exact atD_map (f := celC) (by omega)
  have i2 : Con.holds ⟨fnOf, specY, L+1⟩ (runF ⟨fnOf, specY, L+1⟩ n) (.ix (.int .i64 (IntKind.wrap .i64 (((zl.map celC).length : Int) + 1))) la (ln + 1)) := by
    rw [hzl, wrap_id (by omega), show (ln : Int) + 1 = ((ln + 1 : Nat) : Int) by omega]; exact ix_at (by omega)
  have a2 : Con.holds ⟨fnOf, specY, L+1⟩ (runF ⟨fnOf, specY, L+1⟩ n) (.at (ws.map celC) (0 + (ln + 1)) [.cpx ((0, 4635189178982727680) : Nat × Nat).1 ((0, 4635189178982727680) : Nat × Nat).2]) := by
    rw [Nat.zero_add, ← hk.2.2]; exact atD_map (f := celC) (by omega)
  have e1 : (!(feq ((4635118810238550016, 0) : Nat × Nat).1 4635118810238550016 && feq ((4635118810238550016, 0) : Nat × Nat).2 0)) = false := by kernel_rfl
  have e2 : (!(feq ((0, 4635189178982727680) : Nat × Nat).1 0 && feq ((0, 4635189178982727680) : Nat × Nat).2 4635189178982727680)) = false := by kernel_rfl
  have e3 : (passE r d nn ta ea W ov != passE r d nn ta ea W ov) = false := by simp
  have leq : ∀ l : List (List AV), Con.holds ⟨fnOf, specY, L+1⟩ (runF ⟨fnOf, specY, L+1⟩ n) (.le (0 + l.length) l.length) := fun l => by show _ ≤ _; omega
  have wj : IntKind.wrap .i64 ((j : Int) + 1) = ((j + 1 : Nat) : Int) := by rw [wrap_id (by omega)]; omega
  by_cases c1 : j = 1
  · have g1 : ((j : Int) == 1) = true := by rw [c1]; rfl
    by_cases c2 : at1 ≥ 0
    · by_cases c3 : at1 < (ln : Int)
      · have i3 : Con.holds ⟨fnOf, specY, L+1⟩ (runF ⟨fnOf, specY, L+1⟩ n) (.ix (.int .i64 at1) ln at1.toNat) := by
          have := @ix_at ⟨fnOf, specY, L+1⟩ (runF ⟨fnOf, specY, L+1⟩ n) at1.toNat ln (by omega)
          rwa [show ((at1.toNat : Nat) : Int) = at1 by omega] at this
        have a3 : Con.holds ⟨fnOf, specY, L+1⟩ (runF ⟨fnOf, specY, L+1⟩ n) (.at (wz.map celC) (0 + at1.toNat) [.cpx (wz.getD at1.toNat (0, 0)).1 (wz.getD at1.toNat (0, 0)).2]) := by
          rw [Nat.zero_add]; exact atD_map (f := celC) (by have := hwz.1; omega)
        have := @kr_7 L.succ n nn at1 rate delay att r d re im odd ts es [] [] ta ea zl ws ov wz oz la ln no j (us.map celC).length [24] [] us2 us cs (us.map celC).length (us.map celC).length (cs.map celC).length ln no us _ us _ cs _ true ln (4635118810238550016, 0) (ln + 1) (0, 4635189178982727680) true true true at1.toNat (wz.getD at1.toNat (0, 0)) b0 h1 h2 h3 h4 (by rw [cu, cu, cw, co]; exact p1) (leq _) (leq _) (by rw [cu, cu, cw, co]; exact p1) (by rw [cu, cu, cw, co, cu, cu]; exact p2) (leq _) (leq _) (by rw [cu, cu]; exact q1) (leq _) (leq _) rfl e3 i1 a1 e1 i2 a2 e2 (by rw [cw, cu]; exact q2) rfl (by rw [co, cu]; exact q3) rfl ga (by rw [cu, cu]; exact q1) (leq _) (leq _) rfl gb gc g1 (dT c2) (dT c3) i3 a3
        rw [wj] at this
        refine ⟨wz.set at1.toNat (re, im), oz, okW_set hwz (by omega), hoz, ?_⟩
        rw [this]
        unfold pwR
        rw [← map_set, Nat.zero_add]
        rfl
      · have := @kr_8 L.succ n nn at1 rate delay att r d re im odd ts es [] [] ta ea zl ws ov wz oz la ln no j (us.map celC).length [24] [] us2 us cs (us.map celC).length (us.map celC).length (cs.map celC).length ln no us _ us _ cs _ true ln (4635118810238550016, 0) (ln + 1) (0, 4635189178982727680) true true true b0 h1 h2 h3 h4 (by rw [cu, cu, cw, co]; exact p1) (leq _) (leq _) (by rw [cu, cu, cw, co]; exact p1) (by rw [cu, cu, cw, co, cu, cu]; exact p2) (leq _) (leq _) (by rw [cu, cu]; exact q1) (leq _) (leq _) rfl e3 i1 a1 e1 i2 a2 e2 (by rw [cw, cu]; exact q2) rfl (by rw [co, cu]; exact q3) rfl ga (by rw [cu, cu]; exact q1) (leq _) (leq _) rfl gb gc g1 (dT c2) (dF c3)
        rw [wj] at this
        exact ⟨wz, oz, hwz, hoz, this⟩
    · have := @kr_9 L.succ n nn at1 rate delay att r d re im odd ts es [] [] ta ea zl ws ov wz oz la ln no j (us.map celC).length [24] [] us2 us cs (us.map celC).length (us.map celC).length (cs.map celC).length ln no us _ us _ cs _ true ln (4635118810238550016, 0) (ln + 1) (0, 4635189178982727680) true true true b0 h1 h2 h3 h4 (by rw [cu, cu, cw, co]; exact p1) (leq _) (leq _) (by rw [cu, cu, cw, co]; exact p1) (by rw [cu, cu, cw, co, cu, cu]; exact p2) (leq _) (leq _) (by rw [cu, cu]; exact q1) (leq _) (leq _) rfl e3 i1 a1 e1 i2 a2 e2 (by rw [cw, cu]; exact q2) rfl (by rw [co, cu]; exact q3) rfl ga (by rw [cu, cu]; exact q1) (leq _) (leq _) rfl gb gc g1 (dF c2)
      rw [wj] at this
      exact ⟨wz, oz, hwz, hoz, this⟩
  · have g1 : ((j : Int) == 1) = false := by rw [beq_eq_false_iff_ne]; omega
    have := @kr_10 L.succ n nn at1 rate delay att r d re im odd ts es [] [] ta ea zl ws ov wz oz la ln no j (us.map celC).length [24] [] us2 us cs (us.map celC).length (us.map celC).length (cs.map celC).length ln no us _ us _ cs _ true ln (4635118810238550016, 0) (ln + 1) (0, 4635189178982727680) true true true b0 h1 h2 h3 h4 (by rw [cu, cu, cw, co]; exact p1) (leq _) (leq _) (by rw [cu, cu, cw, co]; exact p1) (by rw [cu, cu, cw, co, cu, cu]; exact p2) (leq _) (leq _) (by rw [cu, cu]; exact q1) (leq _) (leq _) rfl e3 i1 a1 e1 i2 a2 e2 (by rw [cw, cu]; exact q2) rfl (by rw [co, cu]; exact q3) rfl ga (by rw [cu, cu]; exact q1) (leq _) (leq _) rfl gb gc g1
    rw [wj] at this
    exact ⟨wz, oz, hwz, hoz, this⟩
end
end Go.Proofs.Ytnphdnokedhhkaa.Fw
