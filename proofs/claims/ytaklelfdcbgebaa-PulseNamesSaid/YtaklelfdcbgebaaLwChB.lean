/- slices.Clone, slices.Reverse, the document's Turned; a list is the same as itself (Same, sameTaps). -/
import Derived.Test.YtaklelfdcbgebaaLwChA
set_option maxRecDepth 100000
set_option maxHeartbeats 4000000
set_option linter.unusedSimpArgs false
set_option linter.unusedVariables false
namespace Go.Proofs.Ytaklelfdcbgebaa.Fw
open Go Go.RowKit
theorem takeMap {α : Type} {f : α → List AV} {xs : List α} {m : Nat} (h : m = xs.length) : List.take m (xs.map f) = xs.map f := by
  rw [List.take_of_length_le]; rw [map_len, h]; exact Nat.le_refl _
section
variable {σ : FuncId → Option (List AV → Option AV)} {L n : Nat} {us : List Nat}
theorem clone_den (h : us ≠ []) (hm : us.length * 8 ≤ most) : den ⟨fnOf, σ, L⟩ (n+1) 39 [.lst 1 (us.map celF)] = some (.own 1 (us.map celF) true) := by
  have h0 : Con.holds ⟨fnOf, σ, L⟩ (runF ⟨fnOf, σ, L⟩ n) (.any 0 [2] (MO.mk (some 4) (MOp.bin BinOp.eql EqK.slice (Opd.t 3) (Opd.k .nils)) none []) [(3, (.lst 1 (List.map celF us)))] [] (.v (.bool false)) []) := by
    cases us with
    | nil => exact absurd rfl h
    | cons x r => rfl
  have := cl_0 h0 (catF_ok hm) (Nat.le_refl _)
  rw [this, takeMap map_len]
/-- the first and the last 'r' changed for one another -/
def rvN (us : List Nat) (r : Nat) : List Nat := (List.range us.length).map fun p => if p < r ∨ us.length - r ≤ p then us.getD (us.length - 1 - p) 0 else us.getD p 0
theorem rvN_len {r : Nat} : (rvN us r).length = us.length := by unfold rvN; rw [List.length_map, List.length_range]
theorem rvN_at {r p : Nat} (h : p < us.length) : (rvN us r)[p]? = some (if p < r ∨ us.length - r ≤ p then us.getD (us.length - 1 - p) 0 else us.getD p 0) := by
  unfold rvN; rw [List.getElem?_map, List.getElem?_range h]; rfl
theorem rvN_zero : rvN us 0 = us := by
  apply List.ext_getElem?
  intro p
  by_cases h : p < us.length
  · rw [rvN_at h, if_neg (by omega), List.getD_eq_getElem?_getD, List.getElem?_eq_getElem h]; rfl
  · rw [List.getElem?_eq_none (by rw [rvN_len]; omega), List.getElem?_eq_none (by omega)]
theorem rvN_up {r : Nat} (h : r < us.length / 2) : ((rvN us r).set r (us.getD (us.length - 1 - r) 0)).set (us.length - 1 - r) (us.getD r 0) = rvN us (r + 1) := by
  apply List.ext_getElem?
  intro p
  by_cases hp : p < us.length
  · rw [rvN_at hp]
    by_cases h1 : p = us.length - 1 - r
    · subst h1
      rw [List.getElem?_set_self (by rw [List.length_set, rvN_len]; omega), if_pos (by omega), show us.length - 1 - (us.length - 1 - r) = r by omega]
    · rw [List.getElem?_set_ne (by omega)]
      by_cases h2 : p = r
      · subst h2
        rw [List.getElem?_set_self (by rw [rvN_len]; omega), if_pos (by omega)]
      · rw [List.getElem?_set_ne (by omega), rvN_at hp]
        by_cases h3 : p < r ∨ us.length - r ≤ p
        · rw [if_pos h3, if_pos (by omega)]
        · rw [if_neg h3, if_neg (by omega)]
  · rw [List.getElem?_eq_none (by rw [List.length_set, List.length_set, rvN_len]; omega), List.getElem?_eq_none (by rw [rvN_len]; omega)]
theorem rvN_end : rvN us (us.length / 2) = us.reverse := by
  apply List.ext_getElem?
  intro p
  by_cases hp : p < us.length
  · rw [rvN_at hp, List.getElem?_reverse hp]
    by_cases h : p < us.length / 2 ∨ us.length - us.length / 2 ≤ p
    · rw [if_pos h, List.getD_eq_getElem?_getD, List.getElem?_eq_getElem (by omega)]; rfl
    · rw [if_neg h, List.getD_eq_getElem?_getD, show us.length - 1 - p = p by omega, List.getElem?_eq_getElem hp]; rfl
  · rw [List.getElem?_eq_none (by rw [rvN_len]; omega), List.getElem?_eq_none (by rw [List.length_reverse]; omega)]
theorem reverse_run {st τ : List Nat} (hm : us.length ≤ 17592186044415) (hL : us.length ≤ L) (h0 : 0 < us.length) :
    runF ⟨fnOf, σ, L+1⟩ (n+1) 1 (0 :: τ) 40 [.slc ⟨0,14,0⟩ st 1 0 us.length false] [(⟨0,14,0⟩, ⟨st, us.map celF, 1, true⟩)] = some (.tup [], [(⟨0,14,0⟩, ⟨st, us.reverse.map celF, 1, true⟩)]) := by
  have e0 : IntKind.wrap .i64 ((us.length : Int) - 1) = ((us.length - 1 - 0 : Nat) : Int) := by rw [wrap_id (by omega)]; omega
  have lp : Con.holds ⟨fnOf, σ, L+1⟩ (runF ⟨fnOf, σ, L+1⟩ n) (.loop 1 [0, 2, 3] m40b0 (5 :: 0 :: τ) (rvSt us.length us st 0 (IntKind.wrap .i64 ((us.length : Int) - 1))) (.exit 0)
      (rvSt us.length us.reverse st ((us.length / 2 : Nat) : Int) ((us.length - 1 - us.length / 2 : Nat) : Int))) := by
    have hA : rvSt us.length us st 0 (IntKind.wrap .i64 ((us.length : Int) - 1)) = (fun r : Nat => rvSt us.length (rvN us r) st (r : Int) ((us.length - 1 - r : Nat) : Int)) 0 := by
      show _ = rvSt us.length (rvN us 0) st ((0 : Nat) : Int) ((us.length - 1 - 0 : Nat) : Int)
      rw [rvN_zero, e0]; rfl
    rw [hA, ← rvN_end]
    refine loop0 (fun r : Nat => rvSt us.length (rvN us r) st (r : Int) ((us.length - 1 - r : Nat) : Int)) (us.length / 2) rfl (by omega) (fun r hr => ?_) ?_ (by simp)
    · have a1 : ((rvN us r).map celF)[0 + (us.length - 1 - r)]? = some [.flt (us.getD (us.length - 1 - r) 0)] := by
        rw [Nat.zero_add, List.getElem?_map, rvN_at (by omega), if_neg (by omega)]; rfl
      have a2 : ((rvN us r).map celF)[0 + r]? = some [.flt (us.getD r 0)] := by
        rw [Nat.zero_add, List.getElem?_map, rvN_at (by omega), if_neg (by omega)]; rfl
      have a3 : (((rvN us r).map celF).set (0 + r) [.flt (us.getD (us.length - 1 - r) 0)])[0 + (us.length - 1 - r)]? = some [.flt (us.getD (us.length - 1 - r) 0)] := by
        rw [List.getElem?_set_ne (by omega)]; exact a1
      have i1 : Con.holds ⟨fnOf, σ, L+1⟩ (runF ⟨fnOf, σ, L+1⟩ n) (.ix (.int .i64 ((us.length - 1 - r : Nat) : Int)) us.length (us.length - 1 - r)) := ix_at (by omega)
      have i2 : Con.holds ⟨fnOf, σ, L+1⟩ (runF ⟨fnOf, σ, L+1⟩ n) (.ix (.int .i64 (r : Int)) us.length r) := ix_at (by omega)
      have := @rr_0 σ (L+1) n (rvN us r) st τ (r :: 5 :: 0 :: τ) [] (r : Int) ((us.length - 1 - r : Nat) : Int) 0 0 us.length _ _ _ _ _ _ _ _ (dT (by omega)) i1 a1 i2 a2 i2 a2 i1 a3
      rw [wrap_id (n := (r : Int) + 1) (by omega), wrap_id (n := ((us.length - 1 - r : Nat) : Int) - 1) (by omega), show (r : Int) + 1 = ((r + 1 : Nat) : Int) by omega, show ((us.length - 1 - r : Nat) : Int) - 1 = ((us.length - 1 - (r + 1) : Nat) : Int) by omega, Nat.zero_add, Nat.zero_add] at this
      rw [this]
      unfold rvSt
      rw [← rvN_up hr, List.map_set, List.map_set]
      rfl
    · exact @rr_1 σ (L+1) n (rvN us (us.length / 2)) st τ (us.length / 2 :: 5 :: 0 :: τ) [] ((us.length / 2 : Nat) : Int) ((us.length - 1 - us.length / 2 : Nat) : Int) 0 0 us.length (dF (by omega))
  exact @rv_0 σ (L+1) n us st τ [] us.reverse 0 0 _ _ us.length lp
end
section
variable {L n : Nat} {rate fore : Int} {ts : List Nat}
theorem rev_up {r : Nat} (h : r < ts.length) : ts.reverse.take (r + 1) = ts.reverse.take r ++ [ts.getD (ts.length - 1 - r) 0] := by
  rw [List.take_add_one, List.getElem?_reverse h, List.getD_eq_getElem?_getD, List.getElem?_eq_getElem (by omega)]; rfl
/-- what Turned answers -/
def trnL (rate fore : Int) (ts : List Nat) : List Nat := if chkF rate fore ts = 0 then ts.reverse else []
def trnF (rate fore : Int) (ts : List Nat) : Int × Int × Int := if chkF rate fore ts = 0 then (rate, ts.length - 1 - fore, 0) else (0, 0, chkF rate fore ts)
theorem turnedD_ok (hL : 64 ≤ L) (h : chkF rate fore ts = 0) : den ⟨fnOf, specL, L+1⟩ (n+1) 25 [.agg [.int .i64 rate, .int .i64 fore, .lst 1 (ts.map celF)]] = some (.tup [.agg [.int .i64 rate, .int .i64 (ts.length - 1 - fore), .own 1 (ts.reverse.map celF) true], .int .i64 0]) := by
  obtain ⟨r1, r2, r3, r4, r5, _⟩ := chkF_ok h
  have hc := spec_is (P := ⟨fnOf, specL, L+1⟩) (C := runF ⟨fnOf, specL, L+1⟩ n) (f := 29) rfl (chkSem_at rate fore ts)
  rw [h] at hc
  have e0 : IntKind.wrap .i64 (((ts.map celF).length : Int) - 1) = (ts.length : Int) - 1 - ((0 : Nat) : Int) := by rw [map_len, wrap_id (by omega)]; omega
  obtain ⟨s', h1, st, rfl⟩ := loopI (P := ⟨fnOf, specL, L+1⟩) (C := runF ⟨fnOf, specL, L+1⟩ n) (L := L) (d := 0) (live := [1, 2, 5, 6]) (π := [14]) (m := m25b0) (A := udSt rate fore (IntKind.wrap .i64 (((ts.map celF).length : Int) - 1)) ts [] [14] 0)
    (fun i s => ∃ st, s = udSt rate fore ((ts.length : Int) - 1 - i) ts (ts.reverse.take i) st i) (fun s => ∃ st, s = udSt rate fore (-1) ts ts.reverse st ts.length) ts.length (x := .exit 0) (by simp) rfl (by omega) ⟨[14], by rw [e0]; rfl⟩
    (fun i s hi hs => by
      obtain ⟨st, rfl⟩ := hs
      have hp : Con.holds ⟨fnOf, specL, L+1⟩ (runF ⟨fnOf, specL, L+1⟩ n) (.push i 1 8 ((ts.reverse.take i).map celF)) := push_ok (by rw [map_len, List.length_take, List.length_reverse]; omega) (by simp only [most]; omega)
      have he : Con.holds ⟨fnOf, specL, L+1⟩ (runF ⟨fnOf, specL, L+1⟩ n) (.el (ts.map celF) (.int .i64 ((ts.length : Int) - 1 - i)) [.flt (ts.getD (ts.length - 1 - i) 0)]) := by
        rw [show (ts.length : Int) - 1 - i = ((ts.length - 1 - i : Nat) : Int) by omega]
        exact elD_map (f := celF) (by omega)
      have := @ur_0 L.succ n rate fore ((ts.length : Int) - 1 - i) ts (ts.reverse.take i) st [i, 14] i _ (dT (by omega)) he hp
      rw [wrap_id (by omega)] at this
      refine ⟨_, this, [9, i, 14], ?_⟩
      unfold udSt
      rw [rev_up hi, List.map_append, show (ts.length : Int) - 1 - i - 1 = (ts.length : Int) - 1 - ((i + 1 : Nat) : Int) by omega]
      rfl)
    (fun s hs => by
      obtain ⟨st, rfl⟩ := hs
      have e1 : (ts.length : Int) - 1 - ts.length = -1 := by omega
      have e2 : ts.reverse.take ts.length = ts.reverse := by rw [List.take_of_length_le]; rw [List.length_reverse]; exact Nat.le_refl _
      rw [e1, e2]
      exact ⟨_, @ur_1 L.succ n rate fore (-1) ts ts.reverse st [ts.length, 14] ts.length rfl, st, rfl⟩)
  have := @ud_1 (L+1) n rate fore (-1) ts ts.reverse st [] ts.length _ hc rfl h1 (by show _ ≤ _; rw [show List.length _ = _ from map_len, List.length_reverse]; exact Nat.le_refl _)
  rw [this, takeMap (by rw [List.length_reverse]), wrap_id (n := (ts.length : Int) - 1) (by omega), wrap_id (by omega)]
end
section
variable {σ : FuncId → Option (List AV → Option AV)} {L n : Nat} {us : List Nat} {ra fa : Int}
end
end Go.Proofs.Ytaklelfdcbgebaa.Fw
