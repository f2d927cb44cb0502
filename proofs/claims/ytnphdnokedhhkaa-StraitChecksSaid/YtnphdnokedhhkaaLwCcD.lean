/- StraitChecks: the law's own run. -/
import Derived.Test.YtnphdnokedhhkaaLwCcB
set_option maxRecDepth 100000
set_option maxHeartbeats 4000000
set_option linter.unusedSimpArgs false
set_option linter.unusedVariables false
namespace Go.Proofs.Ytnphdnokedhhkaa.Fw
open Go Go.RowKit
section
variable {L n : Nat}
theorem spoil42 {r d : Int} {st st2 τ : List Nat} {l k : List (Nat × Nat)} (hL : l.length ≤ L) (hm : l.length ≤ 100000) (hL2 : k.length ≤ L) (hm2 : k.length ≤ 100000) :
    ∃ l2 k2 : List (Nat × Nat), runF ⟨fnOf, specS, L+1⟩ (n+1) 1 (0 :: τ) 17 [.agg [.int .i64 r, .int .i64 d, .slc ⟨0,42,0⟩ st 1 0 (l.map celC).length false, .slc ⟨0,42,1⟩ st2 1 0 (k.map celC).length false]] [(⟨0,42,0⟩, ⟨st, l.map celC, 1, true⟩), (⟨0,42,1⟩, ⟨st2, k.map celC, 1, true⟩)] =
      some ((.tup []), [((.mk 0 42 0), (.mk st (l2.map celC) 1 true)), ((.mk 0 42 1), (.mk st2 (k2.map celC) 1 true)), ((.mk 1 1 0), (.mk ([0, 0] ++ τ) [[.int .i64 r, .int .i64 d, .slc (.mk 0 42 0) st 1 0 (l.map celC).length false, .slc (.mk 0 42 1) st2 1 0 (k.map celC).length false]] 4 false))]) := by
  have hl : (l.map celC).length = l.length := map_len
  have hk : (k.map celC).length = k.length := map_len
  rw [hl, hk]
  obtain ⟨s', g1, l2, rfl, g2⟩ := loopJ (P := ⟨fnOf, specS, L+1⟩) (C := runF ⟨fnOf, specS, L+1⟩ n) (L := L) (d := 1) (live := [1, 2]) (π := [2, 0] ++ τ) (m := m17b1) (A := s142St r d l k st st2 τ l.length k.length 0)
    (fun i s => ∃ l2 : List (Nat × Nat), s = s142St r d l2 k st st2 τ l.length k.length i ∧ l2.length = l.length) (fun s => ∃ l2 : List (Nat × Nat), s = s142St r d l2 k st st2 τ l.length k.length l.length ∧ l2.length = l.length) l.length (x := .exit 0) (by simp) rfl hL ⟨l, rfl, rfl⟩
    (fun i s hi hs => by
      obtain ⟨l2, rfl, h2⟩ := hs
      have a1 : Con.holds ⟨fnOf, specS, L+1⟩ (runF ⟨fnOf, specS, L+1⟩ n) (.at (l2.map celC) (0 + i) [.cpx (l2.getD i (0, 0)).1 (l2.getD i (0, 0)).2]) := by
        rw [Nat.zero_add]; exact atD_map (f := celC) (by omega)
      have := @sq42_0 (L+1) n r d st st2 τ (i :: ([2, 0] ++ τ)) l.length k.length i 0 l2 [] k [] i (l2.getD i (0, 0)) (dLt hi) (ix_at hi) a1
      rw [wrap_id (n := (i : Int) + 1) (by omega)] at this
      refine ⟨_, this, l2.set i (4621256167635550208, 0), ?_, by rw [List.length_set, h2]⟩
      unfold s142St
      rw [← map_set, Nat.zero_add]
      rfl)
    (fun s hs => by
      obtain ⟨l2, rfl, h2⟩ := hs
      exact ⟨_, @sq42_1 (L+1) n r d st st2 τ (l.length :: ([2, 0] ++ τ)) l.length k.length l.length 0 l2 [] k [] dNlt, l2, rfl, h2⟩)
  obtain ⟨s2, q1, k2, rfl, q2⟩ := loopJ (P := ⟨fnOf, specS, L+1⟩) (C := runF ⟨fnOf, specS, L+1⟩ n) (L := L) (d := 1) (live := [1, 3]) (π := [4, 0] ++ τ) (m := m17b0) (A := s242St r d l2 k st st2 τ l.length k.length 0)
    (fun i s => ∃ k2 : List (Nat × Nat), s = s242St r d l2 k2 st st2 τ l.length k.length i ∧ k2.length = k.length) (fun s => ∃ k2 : List (Nat × Nat), s = s242St r d l2 k2 st st2 τ l.length k.length k.length ∧ k2.length = k.length) k.length (x := .exit 2) (by simp) rfl hL2 ⟨k, rfl, rfl⟩
    (fun i s hi hs => by
      obtain ⟨k2, rfl, h2⟩ := hs
      have a1 : Con.holds ⟨fnOf, specS, L+1⟩ (runF ⟨fnOf, specS, L+1⟩ n) (.at (k2.map celC) (0 + i) [.cpx (k2.getD i (0, 0)).1 (k2.getD i (0, 0)).2]) := by
        rw [Nat.zero_add]; exact atD_map (f := celC) (by omega)
      have := @sr42_0 (L+1) n r d st st2 τ (i :: ([4, 0] ++ τ)) l.length k.length 0 i l2 [] k2 [] i (k2.getD i (0, 0)) (dLt hi) (ix_at hi) a1
      rw [wrap_id (n := (i : Int) + 1) (by omega)] at this
      refine ⟨_, this, k2.set i (4621256167635550208, 0), ?_, by rw [List.length_set, h2]⟩
      unfold s242St
      rw [← map_set, Nat.zero_add]
      rfl)
    (fun s hs => by
      obtain ⟨k2, rfl, h2⟩ := hs
      exact ⟨_, @sr42_1 (L+1) n r d st st2 τ (k.length :: ([4, 0] ++ τ)) l.length k.length 0 k.length l2 [] k2 [] dNlt, k2, rfl, h2⟩)
  exact ⟨l2, k2, @sp42_0 (L+1) n r d st st2 τ [] l.length k.length l.length k.length l l2 k k2 g1 q1⟩
theorem spoil53 {r d : Int} {st st2 τ : List Nat} {l k : List (Nat × Nat)} (hL : l.length ≤ L) (hm : l.length ≤ 100000) (hL2 : k.length ≤ L) (hm2 : k.length ≤ 100000) :
    ∃ l2 k2 : List (Nat × Nat), runF ⟨fnOf, specS, L+1⟩ (n+1) 1 (0 :: τ) 17 [.agg [.int .i64 r, .int .i64 d, .slc ⟨0,53,0⟩ st 1 0 (l.map celC).length false, .slc ⟨0,53,1⟩ st2 1 0 (k.map celC).length false]] [(⟨0,53,0⟩, ⟨st, l.map celC, 1, true⟩), (⟨0,53,1⟩, ⟨st2, k.map celC, 1, true⟩)] =
      some ((.tup []), [((.mk 0 53 0), (.mk st (l2.map celC) 1 true)), ((.mk 0 53 1), (.mk st2 (k2.map celC) 1 true)), ((.mk 1 1 0), (.mk ([0, 0] ++ τ) [[.int .i64 r, .int .i64 d, .slc (.mk 0 53 0) st 1 0 (l.map celC).length false, .slc (.mk 0 53 1) st2 1 0 (k.map celC).length false]] 4 false))]) := by
  have hl : (l.map celC).length = l.length := map_len
  have hk : (k.map celC).length = k.length := map_len
  rw [hl, hk]
  obtain ⟨s', g1, l2, rfl, g2⟩ := loopJ (P := ⟨fnOf, specS, L+1⟩) (C := runF ⟨fnOf, specS, L+1⟩ n) (L := L) (d := 1) (live := [1, 2]) (π := [2, 0] ++ τ) (m := m17b1) (A := s153St r d l k st st2 τ l.length k.length 0)
    (fun i s => ∃ l2 : List (Nat × Nat), s = s153St r d l2 k st st2 τ l.length k.length i ∧ l2.length = l.length) (fun s => ∃ l2 : List (Nat × Nat), s = s153St r d l2 k st st2 τ l.length k.length l.length ∧ l2.length = l.length) l.length (x := .exit 0) (by simp) rfl hL ⟨l, rfl, rfl⟩
    (fun i s hi hs => by
      obtain ⟨l2, rfl, h2⟩ := hs
      have a1 : Con.holds ⟨fnOf, specS, L+1⟩ (runF ⟨fnOf, specS, L+1⟩ n) (.at (l2.map celC) (0 + i) [.cpx (l2.getD i (0, 0)).1 (l2.getD i (0, 0)).2]) := by
        rw [Nat.zero_add]; exact atD_map (f := celC) (by omega)
      have := @sq53_0 (L+1) n r d st st2 τ (i :: ([2, 0] ++ τ)) l.length k.length i 0 l2 [] k [] i (l2.getD i (0, 0)) (dLt hi) (ix_at hi) a1
      rw [wrap_id (n := (i : Int) + 1) (by omega)] at this
      refine ⟨_, this, l2.set i (4621256167635550208, 0), ?_, by rw [List.length_set, h2]⟩
      unfold s153St
      rw [← map_set, Nat.zero_add]
      rfl)
    (fun s hs => by
      obtain ⟨l2, rfl, h2⟩ := hs
      exact ⟨_, @sq53_1 (L+1) n r d st st2 τ (l.length :: ([2, 0] ++ τ)) l.length k.length l.length 0 l2 [] k [] dNlt, l2, rfl, h2⟩)
  obtain ⟨s2, q1, k2, rfl, q2⟩ := loopJ (P := ⟨fnOf, specS, L+1⟩) (C := runF ⟨fnOf, specS, L+1⟩ n) (L := L) (d := 1) (live := [1, 3]) (π := [4, 0] ++ τ) (m := m17b0) (A := s253St r d l2 k st st2 τ l.length k.length 0)
    (fun i s => ∃ k2 : List (Nat × Nat), s = s253St r d l2 k2 st st2 τ l.length k.length i ∧ k2.length = k.length) (fun s => ∃ k2 : List (Nat × Nat), s = s253St r d l2 k2 st st2 τ l.length k.length k.length ∧ k2.length = k.length) k.length (x := .exit 2) (by simp) rfl hL2 ⟨k, rfl, rfl⟩
    (fun i s hi hs => by
      obtain ⟨k2, rfl, h2⟩ := hs
      have a1 : Con.holds ⟨fnOf, specS, L+1⟩ (runF ⟨fnOf, specS, L+1⟩ n) (.at (k2.map celC) (0 + i) [.cpx (k2.getD i (0, 0)).1 (k2.getD i (0, 0)).2]) := by
        rw [Nat.zero_add]; exact atD_map (f := celC) (by omega)
      have := @sr53_0 (L+1) n r d st st2 τ (i :: ([4, 0] ++ τ)) l.length k.length 0 i l2 [] k2 [] i (k2.getD i (0, 0)) (dLt hi) (ix_at hi) a1
      rw [wrap_id (n := (i : Int) + 1) (by omega)] at this
      refine ⟨_, this, k2.set i (4621256167635550208, 0), ?_, by rw [List.length_set, h2]⟩
      unfold s253St
      rw [← map_set, Nat.zero_add]
      rfl)
    (fun s hs => by
      obtain ⟨k2, rfl, h2⟩ := hs
      exact ⟨_, @sr53_1 (L+1) n r d st st2 τ (k.length :: ([4, 0] ++ τ)) l.length k.length 0 k.length l2 [] k2 [] dNlt, k2, rfl, h2⟩)
  exact ⟨l2, k2, @sp53_0 (L+1) n r d st st2 τ [] l.length k.length l.length k.length l l2 k k2 g1 q1⟩
theorem spoil_nil106 : runF ⟨fnOf, specS, L+1⟩ (n+1) 1 (0 :: [106]) 17 [.agg [.int .i64 0, .int .i64 0, .nils, .nils]] [] = some ((.tup []), [((.mk 1 1 0), (.mk [0, 0, 106] [[.int .i64 0, .int .i64 0, .nils, .nils]] 4 false))]) := by kernel_rfl
theorem spoil_nil108 : runF ⟨fnOf, specS, L+1⟩ (n+1) 1 (0 :: [108]) 17 [.agg [.int .i64 0, .int .i64 0, .nils, .nils]] [] = some ((.tup []), [((.mk 1 1 0), (.mk [0, 0, 108] [[.int .i64 0, .int .i64 0, .nils, .nils]] 4 false))]) := by kernel_rfl
def bigL : Nat := 20000000000000
theorem same_told {P : Prog} {C : Caller} (hp : P.spec = specS) {r d : Int} {ts es : List (Nat × Nat)} (m1 : shortL ts) (m2 : shortL es) :
    Con.holds P C (.spec 16 [.agg [.int .i64 r, .int .i64 d, .lst 1 (ts.map celC), .lst 1 (es.map celC)], .agg [.int .i64 r, .int .i64 d, .lst 1 (ts.map celC), .lst 1 (es.map celC)]] (.v (.bool true))) := by
  have hb : bigL = 20000000000000 := rfl
  unfold shortL at m1 m2
  refine spec_is (g := fun avs => den ⟨fnOf, specK, 20000000000001⟩ 2 16 avs) (by rw [hp]; rfl) ?_
  exact @same_self bigL 0 r d ts es (by omega) (by omega) m1 m2
theorem made_told {P : Prog} {C : Caller} (hp : P.spec = specS) {rate delay att : Int} {ts es : List Int} {odd : Nat} (m1 : ts.length ≤ 17592186044415) (m2 : es.length ≤ 17592186044415) :
    Con.holds P C (.spec 13 [.agg [.int .i64 rate, .int .i64 delay, .lst 1 (ts.map celI), .lst 1 (es.map celI), .flt odd, .int .i64 att]] (.agg [.int .i64 rate, .int .i64 delay, .own 1 ((madeT ts odd att).map celC) true, .own 1 ((numU 4634204016564240384 es (es.length / 2)).map celC) true])) := by
  have hb : bigL = 20000000000000 := rfl
  refine spec_is (g := fun avs => den ⟨fnOf, specK, 20000000000001⟩ 2 13 avs) (by rw [hp]; rfl) ?_
  exact @made_den bigL 0 rate delay att ts es odd m1 m2 (by omega) (by omega)
theorem law_checks {rate delay att k : Int} {ts es : List Int} {odd : Nat} (hL : 70000 ≤ L) (m1 : ts.length ≤ 17592186044415) (m2 : es.length ≤ 17592186044415) :
    den ⟨fnOf, specS, L+1⟩ (n+2) 5 [.agg [.int .i64 rate, .int .i64 delay, .lst 1 (ts.map celI), .lst 1 (es.map celI), .flt odd, .int .i64 att], .int .i64 k] = some (.v (.bool true)) := by
  have hb : bigL = 20000000000000 := rfl
  have a1 := @made_told ⟨fnOf, specS, L+1⟩ (runF ⟨fnOf, specS, L+1⟩ (n+1)) rfl rate delay att ts es odd m1 m2
  have n1 : (madeT ts odd att).length = ts.length / 2 := madeT_len
  have n2 : (numU 4634204016564240384 es (es.length / 2)).length = es.length / 2 := tab_len
  generalize madeT ts odd att = ta at *
  generalize numU 4634204016564240384 es (es.length / 2) = ea at *
  have k1 : shortL ta := by unfold shortL; omega
  have k2 : shortL ea := by unfold shortL; omega
  have p1 := spec_is (P := ⟨fnOf, specS, L+1⟩) (C := runF ⟨fnOf, specS, L+1⟩ (n+1)) (f := 22) rfl (chkSem_at (rate := rate) (delay := delay) k1 k2)
  have d1 := spec_is (P := ⟨fnOf, specS, L+1⟩) (C := runF ⟨fnOf, specS, L+1⟩ (n+1)) (f := 23) rfl (chkSem_at (rate := rate) (delay := delay) k1 k2)
  obtain ⟨u, w, q, e, f1, f2, f3⟩ := @first_both 19999999999992 0 rate delay ta ea k1 k2
  have f1' : Con.holds ⟨fnOf, specS, L+1⟩ (runF ⟨fnOf, specS, L+1⟩ (n+1)) (.spec 24 [.agg [.int .i64 rate, .int .i64 delay, .lst 1 (ta.map celC), .lst 1 (ea.map celC)]] (.tup [.flt u, .int .i64 q, .int .i64 e])) := ⟨_, rfl, f1⟩
  have f2' : Con.holds ⟨fnOf, specS, L+1⟩ (runF ⟨fnOf, specS, L+1⟩ (n+1)) (.spec 25 [.agg [.int .i64 rate, .int .i64 delay, .lst 1 (ta.map celC), .lst 1 (ea.map celC)]] (.tup [.flt w, .int .i64 q, .int .i64 e])) := ⟨_, rfl, f2⟩
  have t1 := @turned_prog bigL 0 rate delay k ta ea (by omega) k1 k2
  have t2 := @tud_den bigL 1 rate delay k ta ea (by omega) k1 k2
  have h1 := @halved_prog bigL 0 rate delay ta ea (by omega) k1 k2
  have h2 := @had_den bigL 1 rate delay ta ea (by omega) k1 k2
  have s1 := @same_told ⟨fnOf, specS, L+1⟩ (runF ⟨fnOf, specS, L+1⟩ (n+1)) rfl rate delay ta ea k1 k2
  have b1 : (chkT rate delay ta ea != chkT rate delay ta ea) = false := by simp
  have b2 : (!feq u w) = false := by rw [f3]; rfl
  have b3 : (q != q) = false := by simp
  have b4 : (e != e) = false := by simp
  have cu : ∀ l : List (Nat × Nat), cutX (l.map celC) 0 (l.map celC).length = l.map celC := fun l => cutW
  unfold chgA at t1 t2 h1 h2
  by_cases c0 : chkT rate delay ta ea = 0
  case neg =>
    have e2 : hafE rate delay ta ea = chkT rate delay ta ea := if_pos c0
    rw [if_neg c0] at t1 t2
    rw [e2, if_neg c0] at h1 h2
    unfold failA at t1 t2 h1 h2
    have t1' : Con.holds ⟨fnOf, specS, L+1⟩ (runF ⟨fnOf, specS, L+1⟩ (n+1)) (.spec 26 _ _) := ⟨_, rfl, t1⟩
    have t2' : Con.holds ⟨fnOf, specS, L+1⟩ (runF ⟨fnOf, specS, L+1⟩ (n+1)) (.spec 27 _ _) := ⟨_, rfl, t2⟩
    have h1' : Con.holds ⟨fnOf, specS, L+1⟩ (runF ⟨fnOf, specS, L+1⟩ (n+1)) (.spec 28 _ _) := ⟨_, rfl, h1⟩
    have h2' : Con.holds ⟨fnOf, specS, L+1⟩ (runF ⟨fnOf, specS, L+1⟩ (n+1)) (.spec 29 _ _) := ⟨_, rfl, h2⟩
    have := @lcc0_7 (L+1) (n+1) rate delay att k ts es odd 0 0 (chkT rate delay ta ea) 0 0 [] [] [] [] [] [] [] [] rate delay ta ea _ _ u q e w q e rate delay ta ea true rate delay ta ea true
      a1 (by rw [cu, cu]; exact p1) leAll leAll (by rw [cu, cu]; exact d1) b1 (by rw [cu, cu]; exact f1') (by rw [cu, cu]; exact f2') (by rw [cu, cu]; exact t1') (by rw [cu, cu]; exact t2') (by rw [cu, cu]; exact h1') (by rw [cu, cu]; exact h2') b2 b3 b4 (by simp)
      a1 (by rw [cu, cu]; exact s1) leAll leAll rfl (@spoil_nil106 L n) (@spoil_nil108 L n) a1 (by rw [cu, cu]; exact s1) leAll leAll
    exact this
  obtain ⟨_, _, _, _, tt1, tt2⟩ := chkT_ok c0
  obtain ⟨_, u2, _, _⟩ := tapsF_is.1 tt1
  have hes := es_small tt2
  have hr : (ta.map (rotK (quarters k))).length = ta.length := List.length_map ..
  have hh : (ta.map halfP).length = ta.length := List.length_map ..
  rw [if_pos c0] at t1 t2
  generalize ta.map (rotK (quarters k)) = tr at *
  generalize ta.map halfP = th at *
  have s2 := @same_told ⟨fnOf, specS, L+1⟩ (runF ⟨fnOf, specS, L+1⟩ (n+1)) rfl rate delay tr ea (by unfold shortL; omega) k2
  have t1' : Con.holds ⟨fnOf, specS, L+1⟩ (runF ⟨fnOf, specS, L+1⟩ (n+1)) (.spec 26 _ _) := ⟨_, rfl, t1⟩
  have t2' : Con.holds ⟨fnOf, specS, L+1⟩ (runF ⟨fnOf, specS, L+1⟩ (n+1)) (.spec 27 _ _) := ⟨_, rfl, t2⟩
  obtain ⟨l1, l2, q1⟩ := @spoil42 L n rate delay [1, 31] [2, 31] [106] tr ea (by omega) (by omega) (by omega) (by omega)
  by_cases c1 : hafE rate delay ta ea = 0
  · rw [if_pos c1] at h1 h2
    have s3 := @same_told ⟨fnOf, specS, L+1⟩ (runF ⟨fnOf, specS, L+1⟩ (n+1)) rfl rate delay th ea (by unfold shortL; omega) k2
    have h1' : Con.holds ⟨fnOf, specS, L+1⟩ (runF ⟨fnOf, specS, L+1⟩ (n+1)) (.spec 28 _ _) := ⟨_, rfl, h1⟩
    have h2' : Con.holds ⟨fnOf, specS, L+1⟩ (runF ⟨fnOf, specS, L+1⟩ (n+1)) (.spec 29 _ _) := ⟨_, rfl, h2⟩
    obtain ⟨l3, l4, q2⟩ := @spoil53 L n rate delay [1, 48] [2, 48] [108] th ea (by omega) (by omega) (by omega) (by omega)
    have := @lcc1_5 (L+1) (n+1) rate delay att k ts es odd rate delay 0 rate delay tr ea th ea l1 l2 l3 l4 rate delay ta ea _ _ u q e w q e rate delay ta ea true rate delay ta ea true
      a1 (by rw [cu, cu]; exact p1) leAll leAll (by rw [cu, cu]; exact d1) b1 (by rw [cu, cu]; exact f1') (by rw [cu, cu]; exact f2') (by rw [cu, cu]; exact t1') (by rw [cu, cu]; exact t2') (by rw [cu, cu]; exact h1') (by rw [cu, cu]; exact h2') b2 b3 b4
      (by rw [cu, cu]; exact s2) leAll leAll (by rw [cu, cu]; exact s3) leAll leAll a1 (by rw [cu, cu]; exact s1) leAll leAll rfl q1 q2 a1 (by rw [cu, cu]; exact s1) leAll leAll
    exact this
  · rw [if_neg c1] at h1 h2
    unfold failA at h1 h2
    have h1' : Con.holds ⟨fnOf, specS, L+1⟩ (runF ⟨fnOf, specS, L+1⟩ (n+1)) (.spec 28 _ _) := ⟨_, rfl, h1⟩
    have h2' : Con.holds ⟨fnOf, specS, L+1⟩ (runF ⟨fnOf, specS, L+1⟩ (n+1)) (.spec 29 _ _) := ⟨_, rfl, h2⟩
    have := @lcc2_6 (L+1) (n+1) rate delay att k ts es odd rate delay (hafE rate delay ta ea) 0 0 tr ea [] [] l1 l2 [] [] rate delay ta ea _ _ u q e w q e rate delay ta ea true rate delay ta ea true
      a1 (by rw [cu, cu]; exact p1) leAll leAll (by rw [cu, cu]; exact d1) b1 (by rw [cu, cu]; exact f1') (by rw [cu, cu]; exact f2') (by rw [cu, cu]; exact t1') (by rw [cu, cu]; exact t2') (by rw [cu, cu]; exact h1') (by rw [cu, cu]; exact h2') b2 b3 b4
      (by rw [cu, cu]; exact s2) leAll leAll (by simp) a1 (by rw [cu, cu]; exact s1) leAll leAll rfl q1 (@spoil_nil108 L n) a1 (by rw [cu, cu]; exact s1) leAll leAll
    exact this
end
end Go.Proofs.Ytnphdnokedhhkaa.Fw
