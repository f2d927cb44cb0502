/- StraitPasses: the law's whole run. -/
import Derived.Test.YtnphdnokedhhkaaLwPwB
set_option maxRecDepth 100000
set_option maxHeartbeats 4000000
set_option linter.unusedSimpArgs false
set_option linter.unusedVariables false
namespace Go.Proofs.Ytnphdnokedhhkaa.Fw
open Go Go.RowKit
section
variable {L n : Nat}
theorem made_toldY {P : Prog} {C : Caller} (hp : P.spec = specY) {rate delay att : Int} {ts es : List Int} {odd : Nat} (m1 : ts.length ≤ 17592186044415) (m2 : es.length ≤ 17592186044415) :
    Con.holds P C (.spec 13 [.agg [.int .i64 rate, .int .i64 delay, .lst 1 (ts.map celI), .lst 1 (es.map celI), .flt odd, .int .i64 att]] (.agg [.int .i64 rate, .int .i64 delay, .own 1 ((madeT ts odd att).map celC) true, .own 1 ((numU 4634204016564240384 es (es.length / 2)).map celC) true])) := by
  refine spec_is (g := fun avs => den ⟨fnOf, specK, 20000000000001⟩ 2 13 avs) (by rw [hp]; rfl) ?_
  exact @made_den 20000000000000 0 rate delay att ts es odd m1 m2 (by omega) (by omega)
theorem numbers_told {P : Prog} {C : Caller} (hp : P.spec = specY) {ps : List Int} (m1 : ps.length ≤ 17592186044415) :
    Con.holds P C (.spec 18 [.lst 1 (ps.map celI), .flt 4634204016564240384] (.own 1 ((numU 4634204016564240384 ps (ps.length / 2)).map celC) true)) := by
  refine spec_is (g := fun avs => den ⟨fnOf, specK, 20000000000001⟩ 1 18 avs) (by rw [hp]; rfl) ?_
  exact @numbers_den specK 20000000000000 0 ps 4634204016564240384 m1 (by omega)
theorem same_toldY {P : Prog} {C : Caller} (hp : P.spec = specY) {r d : Int} {ts es : List (Nat × Nat)} (m1 : shortL ts) (m2 : shortL es) :
    Con.holds P C (.spec 16 [.agg [.int .i64 r, .int .i64 d, .lst 1 (ts.map celC), .lst 1 (es.map celC)], .agg [.int .i64 r, .int .i64 d, .lst 1 (ts.map celC), .lst 1 (es.map celC)]] (.v (.bool true))) := by
  unfold shortL at m1 m2
  refine spec_is (g := fun avs => den ⟨fnOf, specK, 20000000000001⟩ 2 16 avs) (by rw [hp]; rfl) ?_
  exact @same_self 20000000000000 0 r d ts es (by omega) (by omega) m1 m2
theorem law_passes {rate delay att at1 nn : Int} {ts es ps ks : List Int} {odd re im : Nat} (m1 : ts.length ≤ 17592186044415) (m2 : es.length ≤ 17592186044415) (m3 : ps.length ≤ 17592186044406) (m4 : ks.length ≤ 17592186044406) (hL : ps.length + ks.length + 200000 ≤ L) :
    den ⟨fnOf, specY, L+1⟩ (n+1) 4 [.agg [.int .i64 rate, .int .i64 delay, .lst 1 (ts.map celI), .lst 1 (es.map celI), .flt odd, .int .i64 att], .lst 1 (ps.map celI), .lst 1 (ks.map celI), .int .i64 nn, .flt re, .flt im, .int .i64 at1] = some (.v (.bool true)) := by
  have a1 := @made_toldY ⟨fnOf, specY, L+1⟩ (runF ⟨fnOf, specY, L+1⟩ n) rfl rate delay att ts es odd m1 m2
  have b1 := @numbers_told ⟨fnOf, specY, L+1⟩ (runF ⟨fnOf, specY, L+1⟩ n) rfl ps (by omega)
  have b2 := @numbers_told ⟨fnOf, specY, L+1⟩ (runF ⟨fnOf, specY, L+1⟩ n) rfl ks (by omega)
  have n1 : (madeT ts odd att).length = ts.length / 2 := madeT_len
  have n2 : (numU 4634204016564240384 es (es.length / 2)).length = es.length / 2 := tab_len
  have n3 : (numU 4634204016564240384 ps (ps.length / 2)).length = ps.length / 2 := tab_len
  have n4 : (numU 4634204016564240384 ks (ks.length / 2)).length = ks.length / 2 := tab_len
  generalize madeT ts odd att = ta at *
  generalize numU 4634204016564240384 es (es.length / 2) = ea at *
  generalize numU 4634204016564240384 ps (ps.length / 2) = zl at *
  generalize numU 4634204016564240384 ks (ks.length / 2) = ov at *
  have k1 : shortL ta := by unfold shortL; omega
  have k2 : shortL ea := by unfold shortL; omega
  have s1 := @same_toldY ⟨fnOf, specY, L+1⟩ (runF ⟨fnOf, specY, L+1⟩ n) rfl rate delay ta ea k1 k2
  have cu : ∀ l : List (Nat × Nat), cutX (l.map celC) 0 (l.map celC).length = l.map celC := fun l => by rw [cutM, List.take_of_length_le (by rw [map_len]; exact Nat.le_refl _)]
  have hzl : (zl.map celC).length = zl.length := map_len
  have hov : (ov.map celC).length = ov.length := map_len
  have leq : ∀ l : List (List AV), Con.holds ⟨fnOf, specY, L+1⟩ (runF ⟨fnOf, specY, L+1⟩ n) (.le (0 + l.length) l.length) := fun l => by show _ ≤ _; omega
  have hws : okW (zl.map celC).length (zl ++ [(4635118810238550016, 0), (0, 4635189178982727680)]) := by
    rw [hzl]
    refine ⟨by simp, ?_, ?_⟩
    · rw [List.getD_eq_getElem?_getD, List.getElem?_append_right (Nat.le_refl _), Nat.sub_self]; rfl
    · rw [List.getD_eq_getElem?_getD, List.getElem?_append_right (by omega), show zl.length + 1 - zl.length = 1 by omega]; rfl
  obtain ⟨s', g1, wF, oF, rfl⟩ := loopJ (P := ⟨fnOf, specY, L+1⟩) (C := runF ⟨fnOf, specY, L+1⟩ n) (L := L) (d := 0) (live := [3, 4, 5, 6, 7, 15, 16, 17, 18, 19, 20]) (π := [24]) (m := m4b3)
    (A := pwR nn at1 rate delay att rate delay re im odd ts es ta ea zl (zl ++ [(4635118810238550016, 0), (0, 4635189178982727680)]) ov ((zl.map celC).length + 2) (zl.map celC).length (ov.map celC).length 0)
    (fun j s => ∃ ws o2 : List (Nat × Nat), s = pwR nn at1 rate delay att rate delay re im odd ts es ta ea zl ws o2 ((zl.map celC).length + 2) (zl.map celC).length (ov.map celC).length j ∧ okW (zl.map celC).length ws ∧ o2.length = (ov.map celC).length)
    (fun s => ∃ ws o2 : List (Nat × Nat), s = pwR nn at1 rate delay att rate delay re im odd ts es ta ea zl ws o2 ((zl.map celC).length + 2) (zl.map celC).length (ov.map celC).length 3) 3 (x := .exit 0) (by simp) rfl (by omega) ⟨_, ov, rfl, hws, hov.symm⟩
    (fun j s hj hs => by
      obtain ⟨ws, o2, rfl, h2, h3⟩ := hs
      obtain ⟨w3, o3, q1, q2, q3⟩ := @roundW L n nn at1 rate delay att rate delay re im odd ts es ta ea zl ws o2 ((zl.map celC).length + 2) (zl.map celC).length (ov.map celC).length j hj h2 hzl.symm rfl h3 (by omega) (by omega) k1 k2 (by omega)
      exact ⟨_, seeZ_go q3, w3, o3, rfl, q1, q2⟩)
    (fun s hs => by
      obtain ⟨ws, o2, rfl, h2, h3⟩ := hs
      exact ⟨_, seeZ_go (@kr_11 L.succ n nn at1 rate delay att rate delay re im odd ts es [] [] ta ea zl ws o2 [] [] ((zl.map celC).length + 2) (zl.map celC).length (ov.map celC).length 3 0 [24] [] [] [] [] 0 0 0 0 0 (dF (by omega))), ws, o2, rfl⟩)
  have hmap : (zl ++ [((4635118810238550016, 0) : Nat × Nat), (0, 4635189178982727680)]).map celC = zl.map celC ++ [[.cpx 4635118810238550016 0], [.cpx 0 4635189178982727680]] := List.map_append
  unfold pwR at g1
  rw [hmap] at g1
  have hcat : Con.holds ⟨fnOf, specY, L+1⟩ (runF ⟨fnOf, specY, L+1⟩ n) (.cat 1 16 true (cutX (zl.map celC) 0 (zl.map celC).length)) := by rw [cu]; exact catC_ok (by simp only [most]; omega)
  have hpush : Con.holds ⟨fnOf, specY, L+1⟩ (runF ⟨fnOf, specY, L+1⟩ n) (.push (cutX (zl.map celC) 0 (zl.map celC).length).length 2 16 (cutX (zl.map celC) 0 (zl.map celC).length)) := by
    rw [cu]; exact push_ok rfl (by rw [hzl]; simp only [most]; omega)
  have hsl : Con.holds ⟨fnOf, specY, L+1⟩ (runF ⟨fnOf, specY, L+1⟩ n) (.sl (some 1) (.slc (.mk 0 38 0) [13] 1 0 ((cutX (zl.map celC) 0 (zl.map celC).length).length + 2) false) none (some (.int .i64 ((zl.map celC).length : Int))) none (.slc (.mk 0 38 0) [13] 1 0 (zl.map celC).length false)) := by
    rw [cu]; exact sl_zero (by omega)
  have := @kl_0 L.succ n nn at1 rate delay att rate delay re im odd ts es ps ks ta ea zl wF oF [] [] ((zl.map celC).length + 2) (zl.map celC).length (ov.map celC).length 3 0 [] [] rate delay ta ea zl ov rate delay ta ea true
    a1 b1 hcat (leq _) hpush hsl b2 (by rw [cu]; exact g1) a1 (by rw [cu, cu]; exact s1) (leq _) (leq _) (leq _) (leq _)
  exact this
end
end Go.Proofs.Ytnphdnokedhhkaa.Fw
