/- numbers, made, samePoints, same; Join: the program's and the document's answer. -/
import Derived.Test.YtnphdnokedhhkaaLwJnA
set_option maxRecDepth 100000
set_option maxHeartbeats 4000000
set_option linter.unusedSimpArgs false
set_option linter.unusedVariables false
namespace Go.Proofs.Ytnphdnokedhhkaa.Fw
open Go Go.RowKit
theorem eq_tab {α : Type} {o : List α} {f : Nat → α} {m : Nat} {d : α} (h1 : o.length = m) (h2 : ∀ j, j < m → o.getD j d = f j) : o = tab f m := by
  apply List.ext_getElem
  · rw [h1, tab_len]
  · intro i a b
    have g1 := h2 i (by omega)
    have g2 := tab_at (f := f) (d := d) (n := m) (i := i) (by omega)
    rw [List.getD_eq_getElem?_getD, List.getElem?_eq_getElem a] at g1
    rw [List.getD_eq_getElem?_getD, List.getElem?_eq_getElem b] at g2
    simpa using g1.trans g2.symm
/-- the numbers that a law makes out of parts -/
def numU (u : Nat) (xs : List Int) (n : Nat) : List (Nat × Nat) := tab (fun j => (fdiv (fofInt (xs.getD (2 * j) 0)) u, fdiv (fofInt (xs.getD (2 * j + 1) 0)) u)) n
section
variable {σ : FuncId → Option (List AV → Option AV)} {L n : Nat}
theorem numbers_den {xs : List Int} {u : Nat} (hm : xs.length ≤ 17592186044415) (hL : xs.length ≤ L) :
    den ⟨fnOf, σ, L+1⟩ (n+1) 18 [.lst 1 (xs.map celI), .flt u] = some (.own 1 ((numU u xs (xs.length / 2)).map celC) true) := by
  have hl : (xs.map celI).length = xs.length := map_len
  have hn : ∀ j, (numU u xs j).length = j := fun j => tab_len
  obtain ⟨s', h1, st, rfl⟩ := loopJ (P := ⟨fnOf, σ, L+1⟩) (C := runF ⟨fnOf, σ, L+1⟩ n) (L := L) (d := 0) (live := [0, 1, 5, 6]) (π := [3]) (m := m18b0) (A := nuSt xs u [] [3] 0 0)
    (fun j s => ∃ st, s = nuSt xs u (numU u xs j) st j (2 * j)) (fun s => ∃ st, s = nuSt xs u (numU u xs (xs.length / 2)) st (xs.length / 2) (2 * (xs.length / 2))) (xs.length / 2) (x := .exit 0) (by simp) rfl (by omega) ⟨[3], rfl⟩
    (fun j s hj hs => by
      obtain ⟨st, rfl⟩ := hs
      have hp : Con.holds ⟨fnOf, σ, L+1⟩ (runF ⟨fnOf, σ, L+1⟩ n) (.push j 1 16 ((numU u xs j).map celC)) := push_ok (by rw [map_len, hn]) (by simp only [most]; omega)
      have e1 : IntKind.wrap .i64 (((2 * j : Nat) : Int) + 1) = ((2 * j + 1 : Nat) : Int) := by rw [wrap_id (by omega)]; omega
      have he : Con.holds ⟨fnOf, σ, L+1⟩ (runF ⟨fnOf, σ, L+1⟩ n) (.el (xs.map celI) (.int .i64 (IntKind.wrap .i64 (((2 * j : Nat) : Int) + 1))) [.int .i64 (xs.getD (2 * j + 1) 0)]) := by
        rw [e1]; exact elD_map (f := celI) (by omega)
      have := @nur_0 σ (L+1) n xs (numU u xs j) st [j, 3] u j (2 * j) (xs.getD (2 * j) 0) (xs.getD (2 * j + 1) 0) (by rw [e1, hl]; exact dLt (by omega)) (elD_map (f := celI) (by omega)) he hp
      rw [wrap_id (n := ((2 * j : Nat) : Int) + 2) (by omega)] at this
      refine ⟨_, this, [23, j, 3], ?_⟩
      unfold nuSt numU
      rw [tab_up, List.map_append, show ((2 * j : Nat) : Int) + 2 = ((2 * (j + 1) : Nat) : Int) by omega]
      rfl)
    (fun s hs => by
      obtain ⟨st, rfl⟩ := hs
      exact ⟨_, @nur_1 σ (L+1) n xs (numU u xs (xs.length / 2)) st [xs.length / 2, 3] u (xs.length / 2) (2 * (xs.length / 2)) (by rw [hl, wrap_id (by omega)]; exact dF (by omega)), st, rfl⟩)
  have := @nu_0 σ (L+1) n xs (numU u xs (xs.length / 2)) st u (xs.length / 2) (2 * (xs.length / 2)) h1 (by show _ ≤ _; rw [show List.length _ = _ from map_len, hn]; exact Nat.le_refl _)
  rw [this, tkMap (hn _).symm]
end
section
variable {L n : Nat}
theorem points_self {us : List (Nat × Nat)} (hL : us.length ≤ L) (hm : shortL us) :
    den ⟨fnOf, specK, L+1⟩ (n+1) 21 [.lst 1 (us.map celC), .lst 1 (us.map celC)] = some (.v (.bool true)) := by
  have hu : (us.map celC).length = us.length := map_len
  unfold shortL at hm
  refine @sp_1 (L+1) n us us us.length (by simp) ?_
  refine loopX (res := m21.res) (fun i => spSt us us i) us.length rfl hL (fun i hi => ?_) ?_ (by simp)
  · have he := elD_map (P := ⟨fnOf, specK, L+1⟩) (C := runF ⟨fnOf, specK, L+1⟩ n) (f := celC) (d := (0, 0)) hi
    have := @spr_2 (L+1) n us us i [7] (us.getD i (0, 0)) (us.getD i (0, 0)) (us.getD i (0, 0)) (us.getD i (0, 0)) (by rw [hu]; exact dLt hi) he he (by rw [alF_self]; rfl) he he (by rw [alF_self]; rfl)
    rw [wrap_id (n := (i : Int) + 1) (by omega)] at this
    exact this
  · exact @spr_3 (L+1) n us us us.length [7] (by rw [hu]; exact dNlt)
theorem same_self {r d : Int} {ts es : List (Nat × Nat)} (h1 : ts.length ≤ L) (h2 : es.length ≤ L) (m1 : shortL ts) (m2 : shortL es) :
    den ⟨fnOf, specK, L+1⟩ (n+2) 16 [.agg [.int .i64 r, .int .i64 d, .lst 1 (ts.map celC), .lst 1 (es.map celC)], .agg [.int .i64 r, .int .i64 d, .lst 1 (ts.map celC), .lst 1 (es.map celC)]] = some (.v (.bool true)) :=
  @sa_0 (L+1) (n+1) r d r d ts es ts es [] 0 0 0 [] true true (by simp) (by simp) (call_den (points_self h1 m1)) rfl (call_den (points_self h2 m2))
/-- the taps that a law makes -/
def madeT (ts : List Int) (odd : Nat) (att : Int) : List (Nat × Nat) :=
  if 0 ≤ att ∧ att < (ts.length / 2 : Nat) then (numU 4634204016564240384 ts (ts.length / 2)).set att.toNat (odd, ((numU 4634204016564240384 ts (ts.length / 2)).getD att.toNat (0, 0)).2) else numU 4634204016564240384 ts (ts.length / 2)
theorem madeT_len {ts : List Int} {odd : Nat} {att : Int} : (madeT ts odd att).length = ts.length / 2 := by
  unfold madeT
  split
  · rw [List.length_set]; exact tab_len
  · exact tab_len
theorem made_den {rate delay att : Int} {ts es : List Int} {odd : Nat} (m1 : ts.length ≤ 17592186044415) (m2 : es.length ≤ 17592186044415) (h1 : ts.length ≤ L) (h2 : es.length ≤ L) :
    den ⟨fnOf, specK, L+1⟩ (n+2) 13 [.agg [.int .i64 rate, .int .i64 delay, .lst 1 (ts.map celI), .lst 1 (es.map celI), .flt odd, .int .i64 att]] =
      some (.agg [.int .i64 rate, .int .i64 delay, .own 1 ((madeT ts odd att).map celC) true, .own 1 ((numU 4634204016564240384 es (es.length / 2)).map celC) true]) := by
  have c1 := call_den (@numbers_den specK L n ts 4634204016564240384 m1 h1)
  have c2 := call_den (@numbers_den specK L n es 4634204016564240384 m2 h2)
  have hz : ∀ {zs : List (Nat × Nat)}, (zs.map celC).length = zs.length := map_len
  have hn : ∀ {xs : List Int}, (numU 4634204016564240384 xs (xs.length / 2)).length = xs.length / 2 := tab_len
  unfold madeT
  by_cases a1 : 0 ≤ att
  · by_cases a2 : att < (ts.length / 2 : Nat)
    · rw [if_pos ⟨a1, a2⟩]
      have i1 : Con.holds ⟨fnOf, specK, L+1⟩ (runF ⟨fnOf, specK, L+1⟩ (n+1)) (.ix (.int .i64 att) ((numU 4634204016564240384 ts (ts.length / 2)).map celC).length att.toNat) := by
        have := @ix_at ⟨fnOf, specK, L+1⟩ (runF ⟨fnOf, specK, L+1⟩ (n+1)) att.toNat ((numU 4634204016564240384 ts (ts.length / 2)).map celC).length (by rw [hz, hn]; omega)
        rwa [show ((att.toNat : Nat) : Int) = att by omega] at this
      have t1 : Con.holds ⟨fnOf, specK, L+1⟩ (runF ⟨fnOf, specK, L+1⟩ (n+1)) (.at ((numU 4634204016564240384 ts (ts.length / 2)).map celC) (0 + att.toNat) [.cpx ((numU 4634204016564240384 ts (ts.length / 2)).getD att.toNat (0, 0)).1 ((numU 4634204016564240384 ts (ts.length / 2)).getD att.toNat (0, 0)).2]) := by
        rw [Nat.zero_add]; exact atD_map (f := celC) (by rw [hn]; omega)
      have := @ma_0 (L+1) (n+1) rate delay att ts es odd _ _ att.toNat _ att.toNat _ c1 c2 (dT (by omega)) (by rw [hz, hn]; exact dT a2) i1 t1 i1 t1 (by show _ ≤ _; rw [List.length_set]; exact Nat.le_refl _) (Nat.le_refl _)
      rw [this, List.take_of_length_le (by rw [List.length_set]; exact Nat.le_refl _), List.take_of_length_le (Nat.le_refl _), Nat.zero_add]
      congr 6
      exact map_set celC (numU 4634204016564240384 ts (ts.length / 2)) att.toNat (odd, ((numU 4634204016564240384 ts (ts.length / 2)).getD att.toNat (0, 0)).2)
    · rw [if_neg (fun h => a2 h.2)]
      have := @ma_1 (L+1) (n+1) rate delay att ts es odd _ _ c1 c2 (dT (by omega)) (by rw [hz, hn]; exact dF a2) (Nat.le_refl _) (Nat.le_refl _)
      rw [this, List.take_of_length_le (Nat.le_refl _), List.take_of_length_le (Nat.le_refl _)]
  · rw [if_neg (fun h => a1 h.1)]
    have := @ma_2 (L+1) (n+1) rate delay att ts es odd _ _ c1 c2 (dF (by omega)) (Nat.le_refl _) (Nat.le_refl _)
    rw [this, List.take_of_length_le (Nat.le_refl _), List.take_of_length_le (Nat.le_refl _)]
/-- the joined taps -/
def joinL (ta tb : List (Nat × Nat)) : List (Nat × Nat) := tab (fun m => accL tb ta 1 (m : Int) (0, 0) tb.length) (ta.length + tb.length - 1)
def joinE (ra da rb db : Int) (ta ea tb eb : List (Nat × Nat)) : Int :=
  if chkT ra da ta ea ≠ 0 then chkT ra da ta ea
  else if chkT rb db tb eb ≠ 0 then chkT rb db tb eb
  else if ra ≠ rb ∨ 0 < ea.length ∨ 0 < eb.length ∨ 65536 < da + db then 1
  else if tapsF (joinL ta tb) = true then 0 else 8
def failA (e : Int) : AV := .tup [.agg [.int .i64 0, .int .i64 0, .nils, .nils], .int .i64 e]
def joinA (ra da rb db : Int) (ta ea tb eb : List (Nat × Nat)) (x : AV) : AV :=
  if joinE ra da rb db ta ea tb eb = 0 then .tup [.agg [.int .i64 ra, .int .i64 (da + db), .own 1 ((joinL ta tb).map celC) true, x], .int .i64 0] else failA (joinE ra da rb db ta ea tb eb)
theorem chkT_ok {r d : Int} {ts es : List (Nat × Nat)} (h : chkT r d ts es = 0) : 1 ≤ r ∧ r ≤ 8 ∧ 0 ≤ d ∧ d ≤ 65536 ∧ tapsF ts = true ∧ (es.length = 0 ∨ tapsF es = true) := by
  unfold chkT at h
  split at h
  · cases h
  · split at h
    · rename_i h1 h2
      exact ⟨by omega, by omega, by omega, by omega, h2.1, h2.2⟩
    · cases h
variable {ra da rb db : Int} {ta ea tb eb : List (Nat × Nat)}
theorem join_both (hL : 70000 ≤ L) (m1 : shortL ta) (m2 : shortL ea) (m3 : shortL tb) (m4 : shortL eb) :
    den ⟨fnOf, specK, L+1⟩ (n+2) 14 [.agg [.int .i64 ra, .int .i64 da, .lst 1 (ta.map celC), .lst 1 (ea.map celC)], .agg [.int .i64 rb, .int .i64 db, .lst 1 (tb.map celC), .lst 1 (eb.map celC)]] = some (joinA ra da rb db ta ea tb eb .nils) ∧
    den ⟨fnOf, specK, L+1⟩ (n+2) 15 [.agg [.int .i64 ra, .int .i64 da, .lst 1 (ta.map celC), .lst 1 (ea.map celC)], .agg [.int .i64 rb, .int .i64 db, .lst 1 (tb.map celC), .lst 1 (eb.map celC)]] = some (joinA ra da rb db ta ea tb eb (.own 1 [] true)) := by
  have hla : (ta.map celC).length = ta.length := map_len
  have hlb : (tb.map celC).length = tb.length := map_len
  have hle : (ea.map celC).length = ea.length := map_len
  have hlf : (eb.map celC).length = eb.length := map_len
  have p1 := spec_is (P := ⟨fnOf, specK, L+1⟩) (C := runF ⟨fnOf, specK, L+1⟩ (n+1)) (f := 22) rfl (chkSem_at (rate := ra) (delay := da) m1 m2)
  have p2 := spec_is (P := ⟨fnOf, specK, L+1⟩) (C := runF ⟨fnOf, specK, L+1⟩ (n+1)) (f := 22) rfl (chkSem_at (rate := rb) (delay := db) m3 m4)
  have d1 := spec_is (P := ⟨fnOf, specK, L+1⟩) (C := runF ⟨fnOf, specK, L+1⟩ (n+1)) (f := 23) rfl (chkSem_at (rate := ra) (delay := da) m1 m2)
  have d2 := spec_is (P := ⟨fnOf, specK, L+1⟩) (C := runF ⟨fnOf, specK, L+1⟩ (n+1)) (f := 23) rfl (chkSem_at (rate := rb) (delay := db) m3 m4)
  unfold joinA
  by_cases a1 : chkT ra da ta ea = 0
  case neg =>
    have e : joinE ra da rb db ta ea tb eb = chkT ra da ta ea := if_pos a1
    rw [e, if_neg a1, if_neg a1]
    have b1 : (chkT ra da ta ea != 0) = true := by simpa using a1
    have b0 : (chkT ra da ta ea == 0) = false := by simpa using a1
    exact ⟨@jp_0 (L+1) (n+1) ra da rb db ta ea tb eb [] 0 0 0 [] _ p1 b1, @jd_7 (L+1) (n+1) ra da rb db ta ea tb eb [] 0 0 0 [] _ d1 b0 b1⟩
  have n1 : (chkT ra da ta ea != 0) = false := by rw [a1]; rfl
  have n0 : (chkT ra da ta ea == 0) = true := by rw [a1]; rfl
  by_cases a2 : chkT rb db tb eb = 0
  case neg =>
    have e : joinE ra da rb db ta ea tb eb = chkT rb db tb eb := by unfold joinE; rw [if_neg (by simp [a1]), if_pos a2]
    rw [e, if_neg a2, if_neg a2]
    have b1 : (chkT rb db tb eb != 0) = true := by simpa using a2
    exact ⟨@jp_1 (L+1) (n+1) ra da rb db ta ea tb eb [] 0 0 0 [] _ _ p1 n1 p2 b1, @jd_0 (L+1) (n+1) ra da rb db ta ea tb eb [] 0 0 0 [] _ _ d1 n0 d2 b1⟩
  have n2 : (chkT rb db tb eb != 0) = false := by rw [a2]; rfl
  obtain ⟨r1, r2, q1, q2, t1, t2⟩ := chkT_ok a1
  obtain ⟨r3, r4, q3, q4, t3, t4⟩ := chkT_ok a2
  obtain ⟨u1, u2, _, _⟩ := tapsF_is.1 t1
  obtain ⟨u3, u4, _, _⟩ := tapsF_is.1 t3
  unfold shortL at m2 m4
  have w1 : IntKind.wrap .i64 (((ea.map celC).length : Int) + ((eb.map celC).length : Int)) = (ea.length : Int) + eb.length := by rw [hle, hlf, wrap_id (by omega)]
  have w2 : IntKind.wrap .i64 (da + db) = da + db := wrap_id (by omega)
  have hE : joinE ra da rb db ta ea tb eb = if ra ≠ rb ∨ 0 < ea.length ∨ 0 < eb.length ∨ 65536 < da + db then 1 else if tapsF (joinL ta tb) = true then 0 else 8 := by
    unfold joinE; rw [if_neg (by simp [a1]), if_neg (by simp [a2])]
  by_cases a3 : ra = rb
  case neg =>
    have e : joinE ra da rb db ta ea tb eb = 1 := by rw [hE, if_pos (.inl a3)]
    have b3 : (ra != rb) = true := by simpa using a3
    rw [e]
    exact ⟨@jp_2 (L+1) (n+1) ra da rb db ta ea tb eb [] 0 0 0 [] _ _ p1 n1 p2 n2 b3, @jd_1 (L+1) (n+1) ra da rb db ta ea tb eb [] 0 0 0 [] _ _ d1 n0 d2 n2 b3⟩
  have n3 : (ra != rb) = false := by rw [a3]; simp
  by_cases a4 : 0 < ea.length
  · have e : joinE ra da rb db ta ea tb eb = 1 := by rw [hE, if_pos (.inr (.inl a4))]
    rw [e]
    exact ⟨@jp_3 (L+1) (n+1) ra da rb db ta ea tb eb [] 0 0 0 [] _ _ p1 n1 p2 n2 n3 (by rw [w1]; exact dT (by omega)), @jd_2 (L+1) (n+1) ra da rb db ta ea tb eb [] 0 0 0 [] _ _ d1 n0 d2 n2 n3 (by rw [hle]; exact dT (by omega))⟩
  have n4 : decide (((ea.map celC).length : Int) > 0) = false := by rw [hle]; exact dF (by omega)
  by_cases a5 : 0 < eb.length
  · have e : joinE ra da rb db ta ea tb eb = 1 := by rw [hE, if_pos (.inr (.inr (.inl a5)))]
    rw [e]
    exact ⟨@jp_3 (L+1) (n+1) ra da rb db ta ea tb eb [] 0 0 0 [] _ _ p1 n1 p2 n2 n3 (by rw [w1]; exact dT (by omega)), @jd_3 (L+1) (n+1) ra da rb db ta ea tb eb [] 0 0 0 [] _ _ d1 n0 d2 n2 n3 n4 (by rw [hlf]; exact dT (by omega))⟩
  have n5 : decide (((eb.map celC).length : Int) > 0) = false := by rw [hlf]; exact dF (by omega)
  have n6 : decide (IntKind.wrap .i64 (((ea.map celC).length : Int) + ((eb.map celC).length : Int)) > 0) = false := by rw [w1]; exact dF (by omega)
  by_cases a6 : 65536 < da + db
  · have e : joinE ra da rb db ta ea tb eb = 1 := by rw [hE, if_pos (.inr (.inr (.inr a6)))]
    rw [e]
    exact ⟨@jp_4 (L+1) (n+1) ra da rb db ta ea tb eb [] 0 0 0 [] _ _ p1 n1 p2 n2 n3 n6 (by rw [w2]; exact dT (by omega)), @jd_4 (L+1) (n+1) ra da rb db ta ea tb eb [] 0 0 0 [] _ _ d1 n0 d2 n2 n3 n4 n5 (by rw [w2]; exact dT (by omega))⟩
  have n7 : decide (IntKind.wrap .i64 (da + db) > 65536) = false := by rw [w2]; exact dF (by omega)
  have hE2 : joinE ra da rb db ta ea tb eb = if tapsF (joinL ta tb) = true then 0 else 8 := by rw [hE, if_neg (by omega)]
  have w3 : IntKind.wrap .i64 (IntKind.wrap .i64 (((ta.map celC).length : Int) + ((tb.map celC).length : Int)) - 1) = ((ta.length + tb.length - 1 : Nat) : Int) := by
    rw [hla, hlb, wrap_id (n := (ta.length : Int) + tb.length) (by omega), wrap_id (by omega)]; omega
  have hjl : (joinL ta tb).length = ta.length + tb.length - 1 := tab_len
  have hjs : shortL (joinL ta tb) := by unfold shortL; rw [hjl]; omega
  -- the program
  obtain ⟨o2, g1, g2, g3⟩ := @lay53 L n ta tb [45] [52] 1 0 (ta.length + tb.length - 1) (List.replicate (ta.length + tb.length - 1) (0, 0)) List.length_replicate (by omega) (by omega) (by omega) (by decide) (by decide) (by omega)
  have go : o2 = joinL ta tb := eq_tab g2 fun j hj => by
    have e0 : (List.replicate (ta.length + tb.length - 1) ((0, 0) : Nat × Nat)).getD j (0, 0) = (0, 0) := by
      rw [List.getD_eq_getElem?_getD, List.getElem?_replicate]; split <;> rfl
    rw [g3 j hj, e0, show ((j : Int) - ((0 : Nat) : Int)) = (j : Int) by omega]
  subst go
  have hmk : Con.holds ⟨fnOf, specK, L+1⟩ (runF ⟨fnOf, specK, L+1⟩ (n+1)) (.mk (ta.length + tb.length - 1) (ta.length + tb.length - 1) true ((List.replicate (ta.length + tb.length - 1) (0, 0)).map celC) (IntKind.wrap .i64 (IntKind.wrap .i64 (((ta.map celC).length : Int) + ((tb.map celC).length : Int)) - 1)) (IntKind.wrap .i64 (IntKind.wrap .i64 (((ta.map celC).length : Int) + ((tb.map celC).length : Int)) - 1)) 16 [.cpx 0 0]) := by
    rw [w3]; exact mk_ok (f := celC) rfl (by simp only [most]; omega) (by simp only [most]; omega)
  have hcl : Con.holds ⟨fnOf, specK, L+1⟩ (runF ⟨fnOf, specK, L+1⟩ (n+1)) (.calli 0 [52] 40 [(.slc (.mk 0 53 0) [45] 1 0 (ta.length + tb.length - 1) true), (.lst 1 (ta.map celC)), (.lst 1 (tb.map celC)), (.v (.int .i64 1)), (.v (.int .i64 0))] [((.mk 0 53 0), (.mk [45] ((List.replicate (ta.length + tb.length - 1) (0, 0)).map celC) 1 true))] (.tup []) [((.mk 0 53 0), (.mk [45] ((joinL ta tb).map celC) 1 true))]) := g1
  have hcut : cutX ((joinL ta tb).map celC) 0 (ta.length + tb.length - 1) = (joinL ta tb).map celC := by rw [cutM, List.take_of_length_le (by rw [hjl]; exact Nat.le_refl _)]
  have htk : List.take (ta.length + tb.length - 1) ((joinL ta tb).map celC) = (joinL ta tb).map celC := tkMap hjl.symm
  have htp : Con.holds ⟨fnOf, specK, L+1⟩ (runF ⟨fnOf, specK, L+1⟩ (n+1)) (.spec 41 [.lst 1 (cutX ((joinL ta tb).map celC) 0 (ta.length + tb.length - 1))] (.v (.bool (tapsF (joinL ta tb))))) := by rw [hcut]; exact spec_is rfl (tapSem_at hjs)
  have htd : Con.holds ⟨fnOf, specK, L+1⟩ (runF ⟨fnOf, specK, L+1⟩ (n+1)) (.spec 43 [.lst 1 (cutX ((joinL ta tb).map celC) 0 (ta.length + tb.length - 1))] (.v (.bool (tapsF (joinL ta tb))))) := by rw [hcut]; exact spec_is rfl (tapSem_at hjs)
  have hle1 : Con.holds ⟨fnOf, specK, L+1⟩ (runF ⟨fnOf, specK, L+1⟩ (n+1)) (.le (0 + (ta.length + tb.length - 1)) ((joinL ta tb).map celC).length) := by
    show _ ≤ _; rw [show List.length _ = _ from map_len, hjl]; omega
  have hle2 : Con.holds ⟨fnOf, specK, L+1⟩ (runF ⟨fnOf, specK, L+1⟩ (n+1)) (.le (ta.length + tb.length - 1) ((joinL ta tb).map celC).length) := by
    show _ ≤ _; rw [show List.length _ = _ from map_len, hjl]; omega
  -- the document's loop
  obtain ⟨s', l1, st, rfl⟩ := loopJ (P := ⟨fnOf, specK, L+1⟩) (C := runF ⟨fnOf, specK, L+1⟩ (n+1)) (L := L) (d := 0) (live := [2, 3, 4, 7, 8]) (π := [50]) (m := m15b0) (A := jdSt ra da rb db (IntKind.wrap .i64 (da + db)) ta ea tb eb [] [50] 0 0)
    (fun i s => ∃ st, s = jdSt ra da rb db (IntKind.wrap .i64 (da + db)) ta ea tb eb (tab (fun m => accL tb ta 1 (m : Int) (0, 0) tb.length) i) st i i)
    (fun s => ∃ st, s = jdSt ra da rb db (IntKind.wrap .i64 (da + db)) ta ea tb eb (joinL ta tb) st (ta.length + tb.length - 1) (ta.length + tb.length - 1)) (ta.length + tb.length - 1) (x := .exit 0) (by simp) rfl (by omega) ⟨[50], rfl⟩
    (fun i s hi hs => by
      obtain ⟨st, rfl⟩ := hs
      have hp : Con.holds ⟨fnOf, specK, L+1⟩ (runF ⟨fnOf, specK, L+1⟩ (n+1)) (.push i 1 16 ((tab (fun m => accL tb ta 1 (m : Int) (0, 0) tb.length) i).map celC)) := push_ok (by rw [map_len, tab_len]) (by simp only [most]; omega)
      have hc := call_den (@through_den L n ta tb (i : Int) 1 (by omega) (by omega) (by omega) (by decide) (by omega))
      have := @jdr_0 (L+1) (n+1) ra da rb db ta ea tb eb (tab (fun m => accL tb ta 1 (m : Int) (0, 0) tb.length) i) 0 i i st (IntKind.wrap .i64 (da + db)) [i, 50] _ (by rw [w3]; exact dLt hi) hc hp
      rw [wrap_id (n := (i : Int) + 1) (by omega)] at this
      refine ⟨_, this, [19, i, 50], ?_⟩
      unfold jdSt
      rw [tab_up, List.map_append]
      rfl)
    (fun s hs => by
      obtain ⟨st, rfl⟩ := hs
      exact ⟨_, @jdr_1 (L+1) (n+1) ra da rb db ta ea tb eb (joinL ta tb) 0 (ta.length + tb.length - 1) (ta.length + tb.length - 1) st (IntKind.wrap .i64 (da + db)) [ta.length + tb.length - 1, 50] (by rw [w3]; exact dNlt), st, rfl⟩)
  cases hq : tapsF (joinL ta tb) with
  | false =>
    have e : joinE ra da rb db ta ea tb eb = 8 := by rw [hE2, hq]; rfl
    rw [e]
    exact ⟨@jp_5 (L+1) (n+1) ra da rb db ta ea tb eb (joinL ta tb) (ta.length + tb.length - 1) 0 0 [] _ _ _ p1 n1 p2 n2 n3 n6 n7 hmk hcl htp hle1 (by rw [hq]; rfl),
      @jd_5 (L+1) (n+1) ra da rb db ta ea tb eb (joinL ta tb) 0 (ta.length + tb.length - 1) (ta.length + tb.length - 1) st _ _ _ d1 n0 d2 n2 n3 n4 n5 n7 l1 htd hle1 (by rw [hq]; rfl)⟩
  | true =>
    have e : joinE ra da rb db ta ea tb eb = 0 := by rw [hE2, hq]; rfl
    rw [e, if_pos rfl, if_pos rfl]
    constructor
    · have := @jp_6 (L+1) (n+1) ra da rb db ta ea tb eb (joinL ta tb) (ta.length + tb.length - 1) 0 0 [] _ _ _ p1 n1 p2 n2 n3 n6 n7 hmk hcl htp hle1 (by rw [hq]; rfl) hle2
      rw [htk, w2] at this
      exact this
    · have := @jd_6 (L+1) (n+1) ra da rb db ta ea tb eb (joinL ta tb) 0 (ta.length + tb.length - 1) (ta.length + tb.length - 1) st _ _ _ d1 n0 d2 n2 n3 n4 n5 n7 l1 htd hle1 (by rw [hq]; rfl) hle2
      rw [htk, w2] at this
      exact this
end
end Go.Proofs.Ytnphdnokedhhkaa.Fw
