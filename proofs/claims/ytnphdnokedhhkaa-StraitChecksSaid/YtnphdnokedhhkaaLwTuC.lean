/- Turned and Halved: the program's and the document's answer. -/
import Derived.Test.YtnphdnokedhhkaaLwTuA
set_option maxRecDepth 100000
set_option maxHeartbeats 4000000
set_option linter.unusedSimpArgs false
set_option linter.unusedVariables false
namespace Go.Proofs.Ytnphdnokedhhkaa.Fw
open Go Go.RowKit
theorem map_tab {f : Nat × Nat → Nat × Nat} {ts : List (Nat × Nat)} : ts.map f = tab (fun j => f (ts.getD j (0, 0))) ts.length :=
  eq_tab (d := (0, 0)) (List.length_map ..) fun j hj => getD_map hj
/-- a strait whose taps are changed -/
def chgA (e rate delay : Int) (l es : List (Nat × Nat)) : AV := if e = 0 then .tup [.agg [.int .i64 rate, .int .i64 delay, .own 1 (l.map celC) true, .own 1 (es.map celC) true], .int .i64 0] else failA e
def hafE (rate delay : Int) (ts es : List (Nat × Nat)) : Int := if chkT rate delay ts es ≠ 0 then chkT rate delay ts es else if tapsF (ts.map halfP) = true then 0 else 8
section
variable {L n : Nat} {rate delay k : Int} {ts es : List (Nat × Nat)}
theorem es_small (h : es.length = 0 ∨ tapsF es = true) : es.length ≤ 64 := by
  rcases h with h | h
  · omega
  · exact (tapsF_is.1 h).2.1
theorem cht_loop (hL : ts.length ≤ L) (hm : ts.length ≤ 64) : Con.holds ⟨fnOf, specZ, L+1⟩ (runF ⟨fnOf, specZ, L+1⟩ n) (.loop 0 [1, 2, 4, 7, 21, 22, 23] m48b0 [17] (chSt (.fn (.func 49) [] [.imm [.int .i64 k]]) rate delay ts es (List.replicate ts.length (0, 0)) ts.length 0) (.exit 0) (chSt (.fn (.func 49) [] [.imm [.int .i64 k]]) rate delay ts es (ts.map (rotK (quarters k))) ts.length ts.length)) := by
  have hl : (ts.map celC).length = ts.length := map_len
  obtain ⟨s', g1, o2, rfl, g2, g3⟩ := loopJ (P := ⟨fnOf, specZ, L+1⟩) (C := runF ⟨fnOf, specZ, L+1⟩ n) (L := L) (d := 0) (live := [1, 2, 4, 7, 21, 22, 23]) (π := [17]) (m := m48b0) (A := chSt (.fn (.func 49) [] [.imm [.int .i64 k]]) rate delay ts es (List.replicate ts.length (0, 0)) ts.length 0)
    (fun i s => ∃ o2 : List (Nat × Nat), s = chSt (.fn (.func 49) [] [.imm [.int .i64 k]]) rate delay ts es o2 ts.length i ∧ o2.length = ts.length ∧ ∀ j, j < i → o2.getD j (0, 0) = (rotK (quarters k)) (ts.getD j (0, 0)))
    (fun s => ∃ o2 : List (Nat × Nat), s = chSt (.fn (.func 49) [] [.imm [.int .i64 k]]) rate delay ts es o2 ts.length ts.length ∧ o2.length = ts.length ∧ ∀ j, j < ts.length → o2.getD j (0, 0) = (rotK (quarters k)) (ts.getD j (0, 0)))
    ts.length (x := .exit 0) (by simp) rfl hL ⟨_, rfl, List.length_replicate, fun j hj => by omega⟩
    (fun i s hi hs => by
      obtain ⟨o2, rfl, h2, h3⟩ := hs
      have a1 : Con.holds ⟨fnOf, specZ, L+1⟩ (runF ⟨fnOf, specZ, L+1⟩ n) (.at (o2.map celC) (0 + i) [.cpx (o2.getD i (0, 0)).1 (o2.getD i (0, 0)).2]) := by
        rw [Nat.zero_add]; exact atD_map (f := celC) (by omega)
      have := @chtr_0 (L+1) n rate delay k ts es o2 ts.length 0 i [] (i :: [17]) (ts.getD i (0, 0)) i (o2.getD i (0, 0)) (by rw [hl]; exact dLt hi) (elD_map (f := celC) hi) (ix_at hi) a1
      rw [wrap_id (n := (i : Int) + 1) (by omega)] at this
      refine ⟨_, this, o2.set i ((rotK (quarters k)) (ts.getD i (0, 0))), ?_, by rw [List.length_set, h2], fun j hj => ?_⟩
      · unfold chSt
        rw [← map_set, Nat.zero_add]
        rfl
      · rw [getD_sets (by omega)]
        by_cases hj2 : i = j
        · subst hj2; rw [if_pos rfl]
        · rw [if_neg hj2]; exact h3 j (by omega))
    (fun s hs => by
      obtain ⟨o2, rfl, h2, h3⟩ := hs
      exact ⟨_, @chtr_1 (L+1) n rate delay k ts es o2 ts.length 0 ts.length [] [ts.length, 17] (by rw [hl]; exact dNlt), o2, rfl, h2, h3⟩)
  have : o2 = ts.map (rotK (quarters k)) := by rw [map_tab]; exact eq_tab g2 g3
  rw [this] at g1
  exact g1
theorem chh_loop (hL : ts.length ≤ L) (hm : ts.length ≤ 64) : Con.holds ⟨fnOf, specZ, L+1⟩ (runF ⟨fnOf, specZ, L+1⟩ n) (.loop 0 [1, 2, 4, 7, 21, 22, 23] m48b0 [17] (chSt (.fn (.func 50) [] []) rate delay ts es (List.replicate ts.length (0, 0)) ts.length 0) (.exit 0) (chSt (.fn (.func 50) [] []) rate delay ts es (ts.map halfP) ts.length ts.length)) := by
  have hl : (ts.map celC).length = ts.length := map_len
  obtain ⟨s', g1, o2, rfl, g2, g3⟩ := loopJ (P := ⟨fnOf, specZ, L+1⟩) (C := runF ⟨fnOf, specZ, L+1⟩ n) (L := L) (d := 0) (live := [1, 2, 4, 7, 21, 22, 23]) (π := [17]) (m := m48b0) (A := chSt (.fn (.func 50) [] []) rate delay ts es (List.replicate ts.length (0, 0)) ts.length 0)
    (fun i s => ∃ o2 : List (Nat × Nat), s = chSt (.fn (.func 50) [] []) rate delay ts es o2 ts.length i ∧ o2.length = ts.length ∧ ∀ j, j < i → o2.getD j (0, 0) = halfP (ts.getD j (0, 0)))
    (fun s => ∃ o2 : List (Nat × Nat), s = chSt (.fn (.func 50) [] []) rate delay ts es o2 ts.length ts.length ∧ o2.length = ts.length ∧ ∀ j, j < ts.length → o2.getD j (0, 0) = halfP (ts.getD j (0, 0)))
    ts.length (x := .exit 0) (by simp) rfl hL ⟨_, rfl, List.length_replicate, fun j hj => by omega⟩
    (fun i s hi hs => by
      obtain ⟨o2, rfl, h2, h3⟩ := hs
      have a1 : Con.holds ⟨fnOf, specZ, L+1⟩ (runF ⟨fnOf, specZ, L+1⟩ n) (.at (o2.map celC) (0 + i) [.cpx (o2.getD i (0, 0)).1 (o2.getD i (0, 0)).2]) := by
        rw [Nat.zero_add]; exact atD_map (f := celC) (by omega)
      have := @chhr_0 (L+1) n rate delay 0 ts es o2 ts.length 0 i [] (i :: [17]) (ts.getD i (0, 0)) i (o2.getD i (0, 0)) (by rw [hl]; exact dLt hi) (elD_map (f := celC) hi) (ix_at hi) a1
      rw [wrap_id (n := (i : Int) + 1) (by omega)] at this
      refine ⟨_, this, o2.set i (halfP (ts.getD i (0, 0))), ?_, by rw [List.length_set, h2], fun j hj => ?_⟩
      · unfold chSt
        rw [← map_set, Nat.zero_add]
        rfl
      · rw [getD_sets (by omega)]
        by_cases hj2 : i = j
        · subst hj2; rw [if_pos rfl]
        · rw [if_neg hj2]; exact h3 j (by omega))
    (fun s hs => by
      obtain ⟨o2, rfl, h2, h3⟩ := hs
      exact ⟨_, @chhr_1 (L+1) n rate delay 0 ts es o2 ts.length 0 ts.length [] [ts.length, 17] (by rw [hl]; exact dNlt), o2, rfl, h2, h3⟩)
  have : o2 = ts.map halfP := by rw [map_tab]; exact eq_tab g2 g3
  rw [this] at g1
  exact g1
theorem cht_den (hL : 64 ≤ L) (m1 : shortL ts) (m2 : shortL es) : den ⟨fnOf, specZ, L+1⟩ (n+1) 48 [.agg [.int .i64 rate, .int .i64 delay, .lst 1 (ts.map celC), .lst 1 (es.map celC)], .fn (.func 49) [] [.imm [.int .i64 k]]] = some (chgA (chkT rate delay ts es) rate delay (ts.map (rotK (quarters k))) es) := by
  have hl : (ts.map celC).length = ts.length := map_len
  have p1 := spec_is (P := ⟨fnOf, specZ, L+1⟩) (C := runF ⟨fnOf, specZ, L+1⟩ n) (f := 22) rfl (chkSem_at (rate := rate) (delay := delay) m1 m2)
  by_cases a1 : chkT rate delay ts es = 0
  case neg =>
    have e : chkT rate delay ts es = chkT rate delay ts es := rfl
    have b1 : (chkT rate delay ts es != 0) = true := by simpa using a1
    unfold chgA
    rw [e, if_neg a1]
    exact @cht_0 (L+1) n rate delay k ts es [] 0 0 0 [] [] _ p1 b1
  have n1 : (chkT rate delay ts es != 0) = false := by rw [a1]; rfl
  obtain ⟨_, _, _, _, t1, t2⟩ := chkT_ok a1
  obtain ⟨_, u2, _, _⟩ := tapsF_is.1 t1
  have hes := es_small t2
  have hml : (ts.map (rotK (quarters k))).length = ts.length := List.length_map ..
  have hmk : Con.holds ⟨fnOf, specZ, L+1⟩ (runF ⟨fnOf, specZ, L+1⟩ n) (.mk ts.length ts.length true ((List.replicate ts.length (0, 0)).map celC) ((ts.map celC).length : Int) ((ts.map celC).length : Int) 16 [.cpx 0 0]) := by
    rw [hl]; exact mk_ok (f := celC) rfl (by simp only [most]; omega) (by simp only [most]; omega)
  have hlp := @cht_loop L n rate delay k ts es (by omega) u2
  have hcut : cutX ((ts.map (rotK (quarters k))).map celC) 0 ts.length = (ts.map (rotK (quarters k))).map celC := by rw [cutM, List.take_of_length_le (by rw [hml]; exact Nat.le_refl _)]
  have htk : List.take ts.length ((ts.map (rotK (quarters k))).map celC) = (ts.map (rotK (quarters k))).map celC := tkMap hml.symm
  have htp : Con.holds ⟨fnOf, specZ, L+1⟩ (runF ⟨fnOf, specZ, L+1⟩ n) (.spec 41 [.lst 1 (cutX ((ts.map (rotK (quarters k))).map celC) 0 ts.length)] (.v (.bool (tapsF (ts.map (rotK (quarters k))))))) := by rw [hcut]; exact spec_is rfl (tapSem_at (by rw [hml]; omega))
  have hle1 : Con.holds ⟨fnOf, specZ, L+1⟩ (runF ⟨fnOf, specZ, L+1⟩ n) (.le (0 + ts.length) ((ts.map (rotK (quarters k))).map celC).length) := by
    show _ ≤ _; rw [show List.length _ = _ from map_len, hml]; omega
  have hle2 : Con.holds ⟨fnOf, specZ, L+1⟩ (runF ⟨fnOf, specZ, L+1⟩ n) (.le ts.length ((ts.map (rotK (quarters k))).map celC).length) := by
    show _ ≤ _; rw [show List.length _ = _ from map_len, hml]; omega
  have hcl : Con.holds ⟨fnOf, specZ, L+1⟩ (runF ⟨fnOf, specZ, L+1⟩ n) (.spec 63 [.lst 1 (es.map celC)] (.own 1 (es.map celC) true)) := spec_is rfl (cloneSem_at (by simp only [most]; omega))
  have hq : tapsF (ts.map (rotK (quarters k))) = true := taps_rotK t1 _
  have := @cht_2 (L+1) n rate delay k ts es (ts.map (rotK (quarters k))) ts.length 0 ts.length [] [] _ _ es p1 n1 hmk hlp htp hle1 (by rw [hq]; rfl) hcl hle2 (Nat.le_refl _)
  rw [htk, List.take_of_length_le (Nat.le_refl _)] at this
  unfold chgA
  rw [if_pos a1]
  exact this
theorem chh_den (hL : 64 ≤ L) (m1 : shortL ts) (m2 : shortL es) : den ⟨fnOf, specZ, L+1⟩ (n+1) 48 [.agg [.int .i64 rate, .int .i64 delay, .lst 1 (ts.map celC), .lst 1 (es.map celC)], .fn (.func 50) [] []] = some (chgA (hafE rate delay ts es) rate delay (ts.map halfP) es) := by
  have hl : (ts.map celC).length = ts.length := map_len
  have p1 := spec_is (P := ⟨fnOf, specZ, L+1⟩) (C := runF ⟨fnOf, specZ, L+1⟩ n) (f := 22) rfl (chkSem_at (rate := rate) (delay := delay) m1 m2)
  by_cases a1 : chkT rate delay ts es = 0
  case neg =>
    have e : hafE rate delay ts es = chkT rate delay ts es := if_pos a1
    have b1 : (chkT rate delay ts es != 0) = true := by simpa using a1
    unfold chgA
    rw [e, if_neg a1]
    exact @chh_0 (L+1) n rate delay 0 ts es [] 0 0 0 [] [] _ p1 b1
  have n1 : (chkT rate delay ts es != 0) = false := by rw [a1]; rfl
  obtain ⟨_, _, _, _, t1, t2⟩ := chkT_ok a1
  obtain ⟨_, u2, _, _⟩ := tapsF_is.1 t1
  have hes := es_small t2
  have hml : (ts.map halfP).length = ts.length := List.length_map ..
  have hmk : Con.holds ⟨fnOf, specZ, L+1⟩ (runF ⟨fnOf, specZ, L+1⟩ n) (.mk ts.length ts.length true ((List.replicate ts.length (0, 0)).map celC) ((ts.map celC).length : Int) ((ts.map celC).length : Int) 16 [.cpx 0 0]) := by
    rw [hl]; exact mk_ok (f := celC) rfl (by simp only [most]; omega) (by simp only [most]; omega)
  have hlp := @chh_loop L n rate delay ts es (by omega) u2
  have hcut : cutX ((ts.map halfP).map celC) 0 ts.length = (ts.map halfP).map celC := by rw [cutM, List.take_of_length_le (by rw [hml]; exact Nat.le_refl _)]
  have htk : List.take ts.length ((ts.map halfP).map celC) = (ts.map halfP).map celC := tkMap hml.symm
  have htp : Con.holds ⟨fnOf, specZ, L+1⟩ (runF ⟨fnOf, specZ, L+1⟩ n) (.spec 41 [.lst 1 (cutX ((ts.map halfP).map celC) 0 ts.length)] (.v (.bool (tapsF (ts.map halfP))))) := by rw [hcut]; exact spec_is rfl (tapSem_at (by rw [hml]; omega))
  have hle1 : Con.holds ⟨fnOf, specZ, L+1⟩ (runF ⟨fnOf, specZ, L+1⟩ n) (.le (0 + ts.length) ((ts.map halfP).map celC).length) := by
    show _ ≤ _; rw [show List.length _ = _ from map_len, hml]; omega
  have hle2 : Con.holds ⟨fnOf, specZ, L+1⟩ (runF ⟨fnOf, specZ, L+1⟩ n) (.le ts.length ((ts.map halfP).map celC).length) := by
    show _ ≤ _; rw [show List.length _ = _ from map_len, hml]; omega
  have hcl : Con.holds ⟨fnOf, specZ, L+1⟩ (runF ⟨fnOf, specZ, L+1⟩ n) (.spec 63 [.lst 1 (es.map celC)] (.own 1 (es.map celC) true)) := spec_is rfl (cloneSem_at (by simp only [most]; omega))
  have hE : hafE rate delay ts es = if tapsF (ts.map halfP) = true then 0 else 8 := if_neg (by simp [a1])
  cases hq : tapsF (ts.map halfP) with
  | true =>
    have := @chh_2 (L+1) n rate delay 0 ts es (ts.map halfP) ts.length 0 ts.length [] [] _ _ es p1 n1 hmk hlp htp hle1 (by rw [hq]; rfl) hcl hle2 (Nat.le_refl _)
    rw [htk, List.take_of_length_le (Nat.le_refl _)] at this
    unfold chgA
    rw [hE, hq]
    exact this
  | false =>
    have := @chh_1 (L+1) n rate delay 0 ts es (ts.map halfP) ts.length 0 ts.length [] [] _ _ p1 n1 hmk hlp htp hle1 (by rw [hq]; rfl)
    unfold chgA
    rw [hE, hq]
    exact this
theorem turned_prog (hL : 64 ≤ L) (m1 : shortL ts) (m2 : shortL es) : den ⟨fnOf, specZ, L+1⟩ (n+2) 26 [.agg [.int .i64 rate, .int .i64 delay, .lst 1 (ts.map celC), .lst 1 (es.map celC)], .int .i64 k] = some (chgA (chkT rate delay ts es) rate delay (ts.map (rotK (quarters k))) es) := by
  have h := call_den (@cht_den L n rate delay k ts es hL m1 m2)
  unfold chgA at h ⊢
  by_cases e : chkT rate delay ts es = 0
  · rw [if_pos e] at h ⊢
    have := @tup_0 (L+1) (n+1) rate delay k ts es [] 0 0 0 [] [] _ es rate delay 0 h (Nat.le_refl _) (Nat.le_refl _)
    rw [List.take_of_length_le (Nat.le_refl _), List.take_of_length_le (Nat.le_refl _)] at this
    exact this
  · rw [if_neg e] at h ⊢
    exact @tupx_0 (L+1) (n+1) rate delay k ts es [] 0 0 0 [] [] _ h
theorem halved_prog (hL : 64 ≤ L) (m1 : shortL ts) (m2 : shortL es) : den ⟨fnOf, specZ, L+1⟩ (n+2) 28 [.agg [.int .i64 rate, .int .i64 delay, .lst 1 (ts.map celC), .lst 1 (es.map celC)]] = some (chgA (hafE rate delay ts es) rate delay (ts.map halfP) es) := by
  have h := call_den (@chh_den L n rate delay ts es hL m1 m2)
  unfold chgA at h ⊢
  by_cases e : hafE rate delay ts es = 0
  · rw [if_pos e] at h ⊢
    have := @hap_0 (L+1) (n+1) rate delay 0 ts es [] 0 0 0 [] [] _ es rate delay 0 h (Nat.le_refl _) (Nat.le_refl _)
    rw [List.take_of_length_le (Nat.le_refl _), List.take_of_length_le (Nat.le_refl _)] at this
    exact this
  · rw [if_neg e] at h ⊢
    exact @hapx_0 (L+1) (n+1) rate delay 0 ts es [] 0 0 0 [] [] _ h
theorem tud_den (hL : 64 ≤ L) (m1 : shortL ts) (m2 : shortL es) : den ⟨fnOf, specZ, L+1⟩ (n+1) 27 [.agg [.int .i64 rate, .int .i64 delay, .lst 1 (ts.map celC), .lst 1 (es.map celC)], .int .i64 k] = some (chgA (chkT rate delay ts es) rate delay (ts.map (rotK (quarters k))) es) := by
  have hl : (ts.map celC).length = ts.length := map_len
  have p1 := spec_is (P := ⟨fnOf, specZ, L+1⟩) (C := runF ⟨fnOf, specZ, L+1⟩ n) (f := 23) rfl (chkSem_at (rate := rate) (delay := delay) m1 m2)
  by_cases a1 : chkT rate delay ts es = 0
  case neg =>
    have e : chkT rate delay ts es = chkT rate delay ts es := rfl
    have b1 : (chkT rate delay ts es != 0) = true := by simpa using a1
    unfold chgA
    rw [e, if_neg a1]
    exact @tud_0 (L+1) n rate delay k ts es [] 0 0 0 [] [] _ p1 b1
  have n1 : (chkT rate delay ts es != 0) = false := by rw [a1]; rfl
  obtain ⟨_, _, _, _, t1, t2⟩ := chkT_ok a1
  obtain ⟨_, u2, _, _⟩ := tapsF_is.1 t1
  have hes := es_small t2
  have hml : (ts.map (rotK (quarters k))).length = ts.length := List.length_map ..
  have hcat : Con.holds ⟨fnOf, specZ, L+1⟩ (runF ⟨fnOf, specZ, L+1⟩ n) (.cat 1 16 true (es.map celC)) := catC_ok (by simp only [most]; omega)
  obtain ⟨s', g1, st, rfl⟩ := loopJ (P := ⟨fnOf, specZ, L+1⟩) (C := runF ⟨fnOf, specZ, L+1⟩ n) (L := L) (d := 0) (live := [1, 2, 4, 7, 8]) (π := [19]) (m := m27b0) (A := tudSt rate delay k ts es [] [19] 0 0)
    (fun i s => ∃ st, s = tudSt rate delay k ts es (tab (fun j => (rotK (quarters k)) (ts.getD j (0, 0))) i) st i i) (fun s => ∃ st, s = tudSt rate delay k ts es (tab (fun j => (rotK (quarters k)) (ts.getD j (0, 0))) ts.length) st ts.length ts.length) ts.length (x := .exit 0) (by simp) rfl (by omega) ⟨[19], rfl⟩
    (fun i s hi hs => by
      obtain ⟨st, rfl⟩ := hs
      have hp : Con.holds ⟨fnOf, specZ, L+1⟩ (runF ⟨fnOf, specZ, L+1⟩ n) (.push i 1 16 ((tab (fun j => (rotK (quarters k)) (ts.getD j (0, 0))) i).map celC)) := push_ok (by rw [map_len, tab_len]) (by simp only [most]; omega)
      have := @tudr_0 (L+1) n rate delay k ts es (tab (fun j => (rotK (quarters k)) (ts.getD j (0, 0))) i) 0 i i st [i, 19] (ts.getD i (0, 0)) (by rw [hl]; exact dLt hi) (elD_map (f := celC) hi) hp
      rw [wrap_id (n := (i : Int) + 1) (by omega)] at this
      refine ⟨_, this, [15, i, 19], ?_⟩
      unfold tudSt
      rw [tab_up, List.map_append]
      rfl)
    (fun s hs => by
      obtain ⟨st, rfl⟩ := hs
      exact ⟨_, @tudr_1 (L+1) n rate delay k ts es (tab (fun j => (rotK (quarters k)) (ts.getD j (0, 0))) ts.length) 0 ts.length ts.length st [ts.length, 19] (by rw [hl]; exact dNlt), st, rfl⟩)
  rw [← map_tab] at g1
  have htk : List.take ts.length ((ts.map (rotK (quarters k))).map celC) = (ts.map (rotK (quarters k))).map celC := tkMap hml.symm
  have hle2 : Con.holds ⟨fnOf, specZ, L+1⟩ (runF ⟨fnOf, specZ, L+1⟩ n) (.le ts.length ((ts.map (rotK (quarters k))).map celC).length) := by
    show _ ≤ _; rw [show List.length _ = _ from map_len, hml]; omega
  have := @tud_1 (L+1) n rate delay k ts es (ts.map (rotK (quarters k))) 0 ts.length ts.length st [] _ p1 n1 hcat g1 hle2 (Nat.le_refl _)
  rw [htk, List.take_of_length_le (Nat.le_refl _)] at this
  unfold chgA
  rw [if_pos a1]
  exact this
theorem had_den (hL : 64 ≤ L) (m1 : shortL ts) (m2 : shortL es) : den ⟨fnOf, specZ, L+1⟩ (n+1) 29 [.agg [.int .i64 rate, .int .i64 delay, .lst 1 (ts.map celC), .lst 1 (es.map celC)]] = some (chgA (hafE rate delay ts es) rate delay (ts.map halfP) es) := by
  have hl : (ts.map celC).length = ts.length := map_len
  have p1 := spec_is (P := ⟨fnOf, specZ, L+1⟩) (C := runF ⟨fnOf, specZ, L+1⟩ n) (f := 23) rfl (chkSem_at (rate := rate) (delay := delay) m1 m2)
  by_cases a1 : chkT rate delay ts es = 0
  case neg =>
    have e : hafE rate delay ts es = chkT rate delay ts es := if_pos a1
    have b1 : (chkT rate delay ts es != 0) = true := by simpa using a1
    unfold chgA
    rw [e, if_neg a1]
    exact @had_0 (L+1) n rate delay 0 ts es [] 0 0 0 [] [] _ p1 b1
  have n1 : (chkT rate delay ts es != 0) = false := by rw [a1]; rfl
  obtain ⟨_, _, _, _, t1, t2⟩ := chkT_ok a1
  obtain ⟨_, u2, _, _⟩ := tapsF_is.1 t1
  have hes := es_small t2
  have hml : (ts.map halfP).length = ts.length := List.length_map ..
  have hcat : Con.holds ⟨fnOf, specZ, L+1⟩ (runF ⟨fnOf, specZ, L+1⟩ n) (.cat 1 16 true (es.map celC)) := catC_ok (by simp only [most]; omega)
  obtain ⟨s', g1, st, rfl⟩ := loopJ (P := ⟨fnOf, specZ, L+1⟩) (C := runF ⟨fnOf, specZ, L+1⟩ n) (L := L) (d := 0) (live := [1, 2, 5, 6]) (π := [19]) (m := m29b0) (A := hadSt rate delay ts es [] [19] 0 0)
    (fun i s => ∃ st, s = hadSt rate delay ts es (tab (fun j => halfP (ts.getD j (0, 0))) i) st i i) (fun s => ∃ st, s = hadSt rate delay ts es (tab (fun j => halfP (ts.getD j (0, 0))) ts.length) st ts.length ts.length) ts.length (x := .exit 0) (by simp) rfl (by omega) ⟨[19], rfl⟩
    (fun i s hi hs => by
      obtain ⟨st, rfl⟩ := hs
      have hp : Con.holds ⟨fnOf, specZ, L+1⟩ (runF ⟨fnOf, specZ, L+1⟩ n) (.push i 1 16 ((tab (fun j => halfP (ts.getD j (0, 0))) i).map celC)) := push_ok (by rw [map_len, tab_len]) (by simp only [most]; omega)
      have := @hadr_0 (L+1) n rate delay 0 ts es (tab (fun j => halfP (ts.getD j (0, 0))) i) 0 i i st [i, 19] (ts.getD i (0, 0)) (ts.getD i (0, 0)) (by rw [hl]; exact dLt hi) (elD_map (f := celC) hi) (elD_map (f := celC) hi) hp
      rw [wrap_id (n := (i : Int) + 1) (by omega)] at this
      refine ⟨_, this, [23, i, 19], ?_⟩
      unfold hadSt
      rw [tab_up, List.map_append]
      rfl)
    (fun s hs => by
      obtain ⟨st, rfl⟩ := hs
      exact ⟨_, @hadr_1 (L+1) n rate delay 0 ts es (tab (fun j => halfP (ts.getD j (0, 0))) ts.length) 0 ts.length ts.length st [ts.length, 19] (by rw [hl]; exact dNlt), st, rfl⟩)
  rw [← map_tab] at g1
  have htk : List.take ts.length ((ts.map halfP).map celC) = (ts.map halfP).map celC := tkMap hml.symm
  have hle2 : Con.holds ⟨fnOf, specZ, L+1⟩ (runF ⟨fnOf, specZ, L+1⟩ n) (.le ts.length ((ts.map halfP).map celC).length) := by
    show _ ≤ _; rw [show List.length _ = _ from map_len, hml]; omega
  have hcut : cutX ((ts.map halfP).map celC) 0 ts.length = (ts.map halfP).map celC := by rw [cutM, List.take_of_length_le (by rw [hml]; exact Nat.le_refl _)]
  have htp : Con.holds ⟨fnOf, specZ, L+1⟩ (runF ⟨fnOf, specZ, L+1⟩ n) (.spec 43 [.lst 1 (cutX ((ts.map halfP).map celC) 0 ts.length)] (.v (.bool (tapsF (ts.map halfP))))) := by rw [hcut]; exact spec_is rfl (tapSem_at (by rw [hml]; omega))
  have hle1 : Con.holds ⟨fnOf, specZ, L+1⟩ (runF ⟨fnOf, specZ, L+1⟩ n) (.le (0 + ts.length) ((ts.map halfP).map celC).length) := by
    show _ ≤ _; rw [show List.length _ = _ from map_len, hml]; omega
  have hE : hafE rate delay ts es = if tapsF (ts.map halfP) = true then 0 else 8 := if_neg (by simp [a1])
  cases hq : tapsF (ts.map halfP) with
  | true =>
    have := @had_2 (L+1) n rate delay 0 ts es (ts.map halfP) 0 ts.length ts.length st [] _ _ p1 n1 hcat g1 htp hle1 (by rw [hq]; rfl) hle2 (Nat.le_refl _)
    rw [htk, List.take_of_length_le (Nat.le_refl _)] at this
    unfold chgA
    rw [hE, hq]
    exact this
  | false =>
    have := @had_1 (L+1) n rate delay 0 ts es (ts.map halfP) 0 ts.length ts.length st [] _ _ p1 n1 hcat g1 htp hle1 (by rw [hq]; rfl)
    unfold chgA
    rw [hE, hq]
    exact this
end
end Go.Proofs.Ytnphdnokedhhkaa.Fw
