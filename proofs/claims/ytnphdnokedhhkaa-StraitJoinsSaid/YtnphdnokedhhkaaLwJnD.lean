/- StraitJoins: the law's own run. -/
import Derived.Test.YtnphdnokedhhkaaLwJnC
set_option maxRecDepth 100000
set_option maxHeartbeats 4000000
set_option linter.unusedSimpArgs false
set_option linter.unusedVariables false
namespace Go.Proofs.Ytnphdnokedhhkaa.Fw
open Go Go.RowKit
section
variable {L n : Nat}
theorem spoil_run {r d : Int} {st τ : List Nat} {l : List (Nat × Nat)} (hL : l.length ≤ L) (hm : l.length ≤ 100000) :
    ∃ l2 : List (Nat × Nat), l2.length = l.length ∧ runF ⟨fnOf, specK, L+1⟩ (n+1) 1 (0 :: τ) 17 [.agg [.int .i64 r, .int .i64 d, .slc ⟨0,18,0⟩ st 1 0 (l.map celC).length false, .nils]] [(⟨0,18,0⟩, ⟨st, l.map celC, 1, true⟩)] =
      some ((.tup []), [((.mk 0 18 0), (.mk st (l2.map celC) 1 true)), ((.mk 1 1 0), (.mk ([0, 0] ++ τ) [[.int .i64 r, .int .i64 d, .slc (.mk 0 18 0) st 1 0 (l.map celC).length false, .nils]] 4 false))]) := by
  have hl : (l.map celC).length = l.length := map_len
  rw [hl]
  obtain ⟨s', g1, l2, rfl, g2⟩ := loopJ (P := ⟨fnOf, specK, L+1⟩) (C := runF ⟨fnOf, specK, L+1⟩ n) (L := L) (d := 1) (live := [1, 2]) (π := [2, 0] ++ τ) (m := m17b1) (A := soSt r d l st τ l.length 0)
    (fun i s => ∃ l2 : List (Nat × Nat), s = soSt r d l2 st τ l.length i ∧ l2.length = l.length) (fun s => ∃ l2 : List (Nat × Nat), s = soSt r d l2 st τ l.length l.length ∧ l2.length = l.length) l.length (x := .exit 0) (by simp) rfl hL ⟨l, rfl, rfl⟩
    (fun i s hi hs => by
      obtain ⟨l2, rfl, h2⟩ := hs
      have a1 : Con.holds ⟨fnOf, specK, L+1⟩ (runF ⟨fnOf, specK, L+1⟩ n) (.at (l2.map celC) (0 + i) [.cpx (l2.getD i (0, 0)).1 (l2.getD i (0, 0)).2]) := by
        rw [Nat.zero_add]; exact atD_map (f := celC) (by omega)
      have := @sor_0 (L+1) n r d st τ (i :: ([2, 0] ++ τ)) l.length i 0 l2 [] i (l2.getD i (0, 0)) (dLt hi) (ix_at hi) a1
      rw [wrap_id (n := (i : Int) + 1) (by omega)] at this
      refine ⟨_, this, l2.set i (4621256167635550208, 0), ?_, by rw [List.length_set, h2]⟩
      unfold soSt
      rw [← map_set, Nat.zero_add]
      rfl)
    (fun s hs => by
      obtain ⟨l2, rfl, h2⟩ := hs
      exact ⟨_, @sor_1 (L+1) n r d st τ (l.length :: ([2, 0] ++ τ)) l.length l.length 0 l2 [] dNlt, l2, rfl, h2⟩)
  obtain ⟨s2, q1, rfl⟩ := loopJ (P := ⟨fnOf, specK, L+1⟩) (C := runF ⟨fnOf, specK, L+1⟩ n) (L := L) (d := 1) (live := [1, 3]) (π := [4, 0] ++ τ) (m := m17b0) (A := sqSt r d l2 st τ l.length 0)
    (fun i s => s = sqSt r d l2 st τ l.length 0) (fun s => s = sqSt r d l2 st τ l.length 0) 0 (x := .exit 2) (by simp) rfl (by omega) rfl
    (fun i s hi _ => by omega)
    (fun s hs => by subst hs; exact ⟨_, @sqr_0 (L+1) n r d st τ (0 :: ([4, 0] ++ τ)) l.length 0 0 l2 [], rfl⟩)
  exact ⟨l2, g2, @so_0 (L+1) n r d st τ [] l.length l.length 0 l l2 g1 q1⟩
theorem spoil_nil : runF ⟨fnOf, specK, L+1⟩ (n+1) 1 (0 :: [39]) 17 [.agg [.int .i64 0, .int .i64 0, .nils, .nils]] [] = some ((.tup []), [((.mk 1 1 0), (.mk [0, 0, 39] [[.int .i64 0, .int .i64 0, .nils, .nils]] 4 false))]) := by kernel_rfl
theorem same_nil : den ⟨fnOf, specK, L+1⟩ (n+2) 16 [.agg [.int .i64 0, .int .i64 0, .nils, .nils], .agg [.int .i64 0, .int .i64 0, .nils, .nils]] = some (.v (.bool true)) := by kernel_rfl
theorem points_nil : den ⟨fnOf, specK, L+1⟩ (n+1) 21 [.nils, .lst 1 []] = some (.v (.bool true)) := by kernel_rfl
theorem same_weak {r d : Int} {l : List (Nat × Nat)} (h1 : l.length ≤ L) (m1 : shortL l) :
    den ⟨fnOf, specK, L+1⟩ (n+2) 16 [.agg [.int .i64 r, .int .i64 d, .lst 1 (l.map celC), .nils], .agg [.int .i64 r, .int .i64 d, .lst 1 (l.map celC), .lst 1 []]] = some (.v (.bool true)) :=
  @sax_0 (L+1) (n+1) r d l true true (by simp) (by simp) (call_den (points_self h1 m1)) rfl (call_den points_nil)
theorem cutW {l : List (Nat × Nat)} : cutX (l.map celC) 0 (l.map celC).length = l.map celC := by
  rw [cutM, List.take_of_length_le (by rw [map_len]; exact Nat.le_refl _)]
theorem leAll {P : Prog} {C : Caller} {l : List (Nat × Nat)} : Con.holds P C (.le (0 + (l.map celC).length) (l.map celC).length) := by
  show _ ≤ _; omega
theorem law_joins {rate delay att rate2 delay2 att2 : Int} {ts es ts2 es2 : List Int} {odd odd2 : Nat} (hL : 70000 ≤ L) (h1 : ts.length ≤ L) (h2 : es.length ≤ L) (h3 : ts2.length ≤ L) (h4 : es2.length ≤ L)
    (m1 : ts.length ≤ 17592186044415) (m2 : es.length ≤ 17592186044415) (m3 : ts2.length ≤ 17592186044415) (m4 : es2.length ≤ 17592186044415) :
    den ⟨fnOf, specK, L+1⟩ (n+4) 3 [.agg [.int .i64 rate, .int .i64 delay, .lst 1 (ts.map celI), .lst 1 (es.map celI), .flt odd, .int .i64 att], .agg [.int .i64 rate2, .int .i64 delay2, .lst 1 (ts2.map celI), .lst 1 (es2.map celI), .flt odd2, .int .i64 att2]] = some (.v (.bool true)) := by
  have a1 := call_den (@made_den L (n+1) rate delay att ts es odd m1 m2 h1 h2)
  have a2 := call_den (@made_den L (n+1) rate2 delay2 att2 ts2 es2 odd2 m3 m4 h3 h4)
  have n1 : (madeT ts odd att).length = ts.length / 2 := madeT_len
  have n2 : (numU 4634204016564240384 es (es.length / 2)).length = es.length / 2 := tab_len
  have n3 : (madeT ts2 odd2 att2).length = ts2.length / 2 := madeT_len
  have n4 : (numU 4634204016564240384 es2 (es2.length / 2)).length = es2.length / 2 := tab_len
  generalize madeT ts odd att = ta at *
  generalize numU 4634204016564240384 es (es.length / 2) = ea at *
  generalize madeT ts2 odd2 att2 = tb at *
  generalize numU 4634204016564240384 es2 (es2.length / 2) = eb at *
  have k1 : shortL ta := by unfold shortL; omega
  have k2 : shortL ea := by unfold shortL; omega
  have k3 : shortL tb := by unfold shortL; omega
  have k4 : shortL eb := by unfold shortL; omega
  obtain ⟨j1, j2⟩ := @join_both L (n+1) rate delay rate2 delay2 ta ea tb eb hL k1 k2 k3 k4
  have s1 := call_den (@same_self L (n+1) rate delay ta ea (by omega) (by omega) k1 k2)
  have s2 := call_den (@same_self L (n+1) rate2 delay2 tb eb (by omega) (by omega) k3 k4)
  unfold joinA at j1 j2
  by_cases he : joinE rate delay rate2 delay2 ta ea tb eb = 0
  case neg =>
    rw [if_neg he] at j1 j2
    have b1 := call_den j1
    have b2 := call_den j2
    unfold failA at b1 b2
    have := @ljf_1 (L+1) (n+3) rate delay att rate2 delay2 att2 0 0 (joinE rate delay rate2 delay2 ta ea tb eb) ts es ts2 es2 [] [] odd odd2 rate delay ta ea rate2 delay2 tb eb rate delay ta ea true rate2 delay2 tb eb true
      a1 a2 (by rw [cutW, cutW, cutW, cutW]; exact b1) leAll leAll leAll leAll (by rw [cutW, cutW, cutW, cutW]; exact b2) (call_den same_nil) (by simp) spoil_nil a1 (by rw [cutW, cutW]; exact s1) leAll leAll rfl a2 (by rw [cutW, cutW]; exact s2) leAll leAll
    exact this
  rw [if_pos he] at j1 j2
  have b1 := call_den j1
  have b2 := call_den j2
  have hE0 : chkT rate delay ta ea = 0 := by
    unfold joinE at he
    by_cases hc : chkT rate delay ta ea = 0
    · exact hc
    · rw [if_pos hc] at he; exact absurd he hc
  have hE1 : chkT rate2 delay2 tb eb = 0 := by
    unfold joinE at he
    rw [if_neg (by simp [hE0])] at he
    by_cases hc : chkT rate2 delay2 tb eb = 0
    · exact hc
    · rw [if_pos hc] at he; exact absurd he hc
  obtain ⟨_, _, _, _, t1, _⟩ := chkT_ok hE0
  obtain ⟨_, _, _, _, t3, _⟩ := chkT_ok hE1
  obtain ⟨_, u2, _, _⟩ := tapsF_is.1 t1
  obtain ⟨_, u4, _, _⟩ := tapsF_is.1 t3
  have hjl : (joinL ta tb).length = ta.length + tb.length - 1 := tab_len
  generalize joinL ta tb = l at *
  obtain ⟨l2, _, hs⟩ := @spoil_run L (n+2) rate (delay + delay2) [1, 13] [39] l (by omega) (by omega)
  have s3 := call_den (@same_weak L (n+1) rate (delay + delay2) l (by omega) (by unfold shortL; omega))
  have := @ljs_0 (L+1) (n+3) rate delay att rate2 delay2 att2 rate (delay + delay2) 0 ts es ts2 es2 l l2 odd odd2 rate delay ta ea rate2 delay2 tb eb rate delay ta ea true rate2 delay2 tb eb true
    a1 a2 (by rw [cutW, cutW, cutW, cutW]; exact b1) leAll leAll leAll leAll (by rw [cutW, cutW, cutW, cutW]; exact b2) (by rw [cutW]; exact s3) leAll hs a1 (by rw [cutW, cutW]; exact s1) leAll leAll rfl a2 (by rw [cutW, cutW]; exact s2) leAll leAll
  exact this
end
end Go.Proofs.Ytnphdnokedhhkaa.Fw
