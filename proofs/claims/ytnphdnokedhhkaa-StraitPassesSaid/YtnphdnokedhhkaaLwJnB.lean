/- numbers, made, samePoints, same; Join: the program's and the document's answer. -/
import Derived.Test.YtnphdnokedhhkaaLwJnA
set_option maxRecDepth 100000
set_option maxHeartbeats 4000000
set_option linter.unusedSimpArgs false
set_option linter.unusedVariables false
namespace Go.Proofs.Ytnphdnokedhhkaa.Fw
open Go Go.RowKit
theorem eq_tab {α : Type} {o : List α} {f : Nat → α} {m : Nat} {d : α} (h1 : o.length = m) (h2 : ∀ j, j < m → o.getD j d = f j) : o = tab f m := by
  apply List.ext_getElem
  · rw [h1, tab_len]
  · intro i a b
    have g1 := h2 i (by omega)
    have g2 := tab_at (f := f) (d := d) (n := m) (i := i) (by omega)
    rw [List.getD_eq_getElem?_getD, List.getElem?_eq_getElem a] at g1
    rw [List.getD_eq_getElem?_getD, List.getElem?_eq_getElem b] at g2
    simpa using g1.trans g2.symm
/-- the numbers that a law makes out of parts -/
def numU (u : Nat) (xs : List Int) (n : Nat) : List (Nat × Nat) := tab (fun j => (fdiv (fofInt (xs.getD (2 * j) 0)) u, fdiv (fofInt (xs.getD (2 * j + 1) 0)) u)) n
section
variable {σ : FuncId → Option (List AV → Option AV)} {L n : Nat}
theorem numbers_den {xs : List Int} {u : Nat} (hm : xs.length ≤ 17592186044415) (hL : xs.length ≤ L) :
    den ⟨fnOf, σ, L+1⟩ (n+1) 18 [.lst 1 (xs.map celI), .flt u] = some (.own 1 ((numU u xs (xs.length / 2)).map celC) true) := by
  have hl : (xs.map celI).length = xs.length := map_len
  have hn : ∀ j, (numU u xs j).length = j := fun j => tab_len
  obtain ⟨s', h1, st, rfl⟩ := loopJ (P := ⟨fnOf, σ, L+1⟩) (C := runF ⟨fnOf, σ, L+1⟩ n) (L := L) (d := 0) (live := [0, 1, 5, 6]) (π := [3]) (m := m18b0) (A := nuSt xs u [] [3] 0 0)
    (fun j s => ∃ st, s = nuSt xs u (numU u xs j) st j (2 * j)) (fun s => ∃ st, s = nuSt xs u (numU u xs (xs.length / 2)) st (xs.length / 2) (2 * (xs.length / 2))) (xs.length / 2) (x := .exit 0) (by simp) rfl (by omega) ⟨[3], rfl⟩
    (fun j s hj hs => by
      obtain ⟨st, rfl⟩ := hs
      have hp : Con.holds ⟨fnOf, σ, L+1⟩ (runF ⟨fnOf, σ, L+1⟩ n) (.push j 1 16 ((numU u xs j).map celC)) := push_ok (by rw [map_len, hn]) (by simp only [most]; omega)
      have e1 : IntKind.wrap .i64 (((2 * j : Nat) : Int) + 1) = ((2 * j + 1 : Nat) : Int) := by rw [wrap_id (by omega)]; omega
      have he : Con.holds ⟨fnOf, σ, L+1⟩ (runF ⟨fnOf, σ, L+1⟩ n) (.el (xs.map celI) (.int .i64 (IntKind.wrap .i64 (((2 * j : Nat) : Int) + 1))) [.int .i64 (xs.getD (2 * j + 1) 0)]) := by
        rw [e1]; exact elD_map (f := celI) (by omega)
      have := @nur_0 σ (L+1) n xs (numU u xs j) st [j, 3] u j (2 * j) (xs.getD (2 * j) 0) (xs.getD (2 * j + 1) 0) (by rw [e1, hl]; exact dLt (by omega)) (elD_map (f := celI) (by omega)) he hp
      rw [wrap_id (n := ((2 * j : Nat) : Int) + 2) (by omega)] at this
      refine ⟨_, this, [23, j, 3], ?_⟩
      unfold nuSt numU
      rw [tab_up, List.map_append, show ((2 * j : Nat) : Int) + 2 = ((2 * (j + 1) : Nat) : Int) by omega]
      rfl)
    (fun s hs => by
      obtain ⟨st, rfl⟩ := hs
      exact ⟨_, @nur_1 σ (L+1) n xs (numU u xs (xs.length / 2)) st [xs.length / 2, 3] u (xs.length / 2) (2 * (xs.length / 2)) (by rw [hl, wrap_id (by omega)]; exact dF (by omega)), st, rfl⟩)
  have := @nu_0 σ (L+1) n xs (numU u xs (xs.length / 2)) st u (xs.length / 2) (2 * (xs.length / 2)) h1 (by show _ ≤ _; rw [show List.length _ = _ from map_len, hn]; exact Nat.le_refl _)
  rw [this, tkMap (hn _).symm]
end
section
variable {L n : Nat}
theorem points_self {us : List (Nat × Nat)} (hL : us.length ≤ L) (hm : shortL us) :
    den ⟨fnOf, specK, L+1⟩ (n+1) 21 [.lst 1 (us.map celC), .lst 1 (us.map celC)] = some (.v (.bool true)) := by
  have hu : (us.map celC).length = us.length := map_len
  unfold shortL at hm
  refine @sp_1 (L+1) n us us us.length (by simp) ?_
  refine loopX (res := m21.res) (fun i => spSt us us i) us.length rfl hL (fun i hi => ?_) ?_ (by simp)
  · have he := elD_map (P := ⟨fnOf, specK, L+1⟩) (C := runF ⟨fnOf, specK, L+1⟩ n) (f := celC) (d := (0, 0)) hi
    have := @spr_2 (L+1) n us us i [7] (us.getD i (0, 0)) (us.getD i (0, 0)) (us.getD i (0, 0)) (us.getD i (0, 0)) (by rw [hu]; exact dLt hi) he he (by rw [alF_self]; rfl) he he (by rw [alF_self]; rfl)
    rw [wrap_id (n := (i : Int) + 1) (by omega)] at this
    exact this
  · exact @spr_3 (L+1) n us us us.length [7] (by rw [hu]; exact dNlt)
theorem same_self {r d : Int} {ts es : List (Nat × Nat)} (h1 : ts.length ≤ L) (h2 : es.length ≤ L) (m1 : shortL ts) (m2 : shortL es) :
    den ⟨fnOf, specK, L+1⟩ (n+2) 16 [.agg [.int .i64 r, .int .i64 d, .lst 1 (ts.map celC), .lst 1 (es.map celC)], .agg [.int .i64 r, .int .i64 d, .lst 1 (ts.map celC), .lst 1 (es.map celC)]] = some (.v (.bool true)) :=
  @sa_0 (L+1) (n+1) r d r d ts es ts es [] 0 0 0 [] true true (by simp) (by simp) (call_den (points_self h1 m1)) rfl (call_den (points_self h2 m2))
/-- the taps that a law makes -/
def madeT (ts : List Int) (odd : Nat) (att : Int) : List (Nat × Nat) :=
  if 0 ≤ att ∧ att < (ts.length / 2 : Nat) then (numU 4634204016564240384 ts (ts.length / 2)).set att.toNat (odd, ((numU 4634204016564240384 ts (ts.length / 2)).getD att.toNat (0, 0)).2) else numU 4634204016564240384 ts (ts.length / 2)
theorem madeT_len {ts : List Int} {odd : Nat} {att : Int} : (madeT ts odd att).length = ts.length / 2 := by
  unfold madeT
  split
  · rw [List.length_set]; exact tab_len
  · exact tab_len
theorem made_den {rate delay att : Int} {ts es : List Int} {odd : Nat} (m1 : ts.length ≤ 17592186044415) (m2 : es.length ≤ 17592186044415) (h1 : ts.length ≤ L) (h2 : es.length ≤ L) :
    den ⟨fnOf, specK, L+1⟩ (n+2) 13 [.agg [.int .i64 rate, .int .i64 delay, .lst 1 (ts.map celI), .lst 1 (es.map celI), .flt odd, .int .i64 att]] =
      some (.agg [.int .i64 rate, .int .i64 delay, .own 1 ((madeT ts odd att).map celC) true, .own 1 ((numU 4634204016564240384 es (es.length / 2)).map celC) true]) := by
  have c1 := call_den (@numbers_den specK L n ts 4634204016564240384 m1 h1)
  have c2 := call_den (@numbers_den specK L n es 4634204016564240384 m2 h2)
  have hz : ∀ {zs : List (Nat × Nat)}, (zs.map celC).length = zs.length := map_len
  have hn : ∀ {xs : List Int}, (numU 4634204016564240384 xs (xs.length / 2)).length = xs.length / 2 := tab_len
  unfold madeT
  by_cases a1 : 0 ≤ att
  · by_cases a2 : att < (ts.length / 2 : Nat)
    · rw [if_pos ⟨a1, a2⟩]
      have i1 : Con.holds ⟨fnOf, specK, L+1⟩ (runF ⟨fnOf, specK, L+1⟩ (n+1)) (.ix (.int .i64 att) ((numU 4634204016564240384 ts (ts.length / 2)).map celC).length att.toNat) := by
        have := @ix_at ⟨fnOf, specK, L+1⟩ (runF ⟨fnOf, specK, L+1⟩ (n+1)) att.toNat ((numU 4634204016564240384 ts (ts.length / 2)).map celC).length (by rw [hz, hn]; omega)
        rwa [show ((att.toNat : Nat) : Int) = att by omega] at this
      have t1 : Con.holds ⟨fnOf, specK, L+1⟩ (runF ⟨fnOf, specK, L+1⟩ (n+1)) (.at ((numU 4634204016564240384 ts (ts.length / 2)).map celC) (0 + att.toNat) [.cpx ((numU 4634204016564240384 ts (ts.length / 2)).getD att.toNat (0, 0)).1 ((numU 4634204016564240384 ts (ts.length / 2)).getD att.toNat (0, 0)).2]) := by
        rw [Nat.zero_add]; exact atD_map (f := celC) (by rw [hn]; omega)
      have := @ma_0 (L+1) (n+1) rate delay att ts es odd _ _ att.toNat _ att.toNat _ c1 c2 (dT (by omega)) (by rw [hz, hn]; exact dT a2) i1 t1 i1 t1 (by show _ ≤ _; rw [List.length_set]; exact Nat.le_refl _) (Nat.le_refl _)
      rw [this, List.take_of_length_le (by rw [List.length_set]; exact Nat.le_refl _), List.take_of_length_le (Nat.le_refl _), Nat.zero_add]
      congr 6
      exact map_set celC (numU 4634204016564240384 ts (ts.length / 2)) att.toNat (odd, ((numU 4634204016564240384 ts (ts.length / 2)).getD att.toNat (0, 0)).2)
    · rw [if_neg (fun h => a2 h.2)]
      have := @ma_1 (L+1) (n+1) rate delay att ts es odd _ _ c1 c2 (dT (by omega)) (by rw [hz, hn]; exact dF a2) (Nat.le_refl _) (Nat.le_refl _)
      rw [this, List.take_of_length_le (Nat.le_refl _), List.take_of_length_le (Nat.le_refl _)]
  · rw [if_neg (fun h => a1 h.1)]
    have := @ma_2 (L+1) (n+1) rate delay att ts es odd _ _ c1 c2 (dF (by omega)) (Nat.le_refl _) (Nat.le_refl _)
    rw [this, List.take_of_length_le (Nat.le_refl _), List.take_of_length_le (Nat.le_refl _)]
theorem chkT_ok {r d : Int} {ts es : List (Nat × Nat)} (h : chkT r d ts es = 0) : 1 ≤ r ∧ r ≤ 8 ∧ 0 ≤ d ∧ d ≤ 65536 ∧ tapsF ts = true ∧ (es.length = 0 ∨ tapsF es = true) := by
  unfold chkT at h
  split at h
  · cases h
  · split at h
    · rename_i h1 h2
      exact ⟨by omega, by omega, by omega, by omega, h2.1, h2.2⟩
    · cases h
variable {ra da rb db : Int} {ta ea tb eb : List (Nat × Nat)}
end
end Go.Proofs.Ytnphdnokedhhkaa.Fw
