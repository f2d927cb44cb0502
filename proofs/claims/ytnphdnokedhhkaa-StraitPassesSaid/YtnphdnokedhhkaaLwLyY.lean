/- lay and through once more, with plain and Rows spoken for. -/
import Derived.Test.YtnphdnokedhhkaaLwLyX
import Derived.Test.YtnphdnokedhhkaaLwLyB
set_option maxRecDepth 100000
set_option maxHeartbeats 4000000
set_option linter.unusedSimpArgs false
set_option linter.unusedVariables false
namespace Go.Proofs.Ytnphdnokedhhkaa.Fw
open Go Go.RowKit
section
variable {L n : Nat} {xs hs : List (Nat × Nat)}
theorem layIX {st π : List Nat} {ap lt : Int} {o : List (Nat × Nat)} {m k fr : Nat} {t : Nat × Nat} (ho : o.length = m) (hm : m ≤ 100000) (hx : xs.length ≤ 100000) (hfr : fr ≤ 100000) (hL : xs.length ≤ L) :
    ∃ i o2, Con.holds ⟨fnOf, specX, L+1⟩ (runF ⟨fnOf, specX, L+1⟩ n) (.loop 1 [0, 1, 3, 4, 11, 12, 17, 18, 19, 29, 30, 31] m40b0 π (li42St m xs hs o ap lt st k t.1 t.2 (fr : Int) 0) (.exit 2) (li42St m xs hs o2 ap lt st k t.1 t.2 (fr : Int) i)) ∧
      o2.length = m ∧ ∀ j, j < m → o2.getD j (0, 0) = if fr ≤ j ∧ j < fr + xs.length then addP (o.getD j (0, 0)) (timP t (xs.getD (j - fr) (0, 0))) else o.getD j (0, 0) := by
  have hkx : (xs.map celC).length = xs.length := map_len
  obtain ⟨s', g1, o2, rfl, g2, g3⟩ := loopJ (P := ⟨fnOf, specX, L+1⟩) (C := runF ⟨fnOf, specX, L+1⟩ n) (L := L) (d := 1) (live := [0, 1, 3, 4, 11, 12, 17, 18, 19, 29, 30, 31]) (π := π) (m := m40b0) (A := li42St m xs hs o ap lt st k t.1 t.2 (fr : Int) 0)
    (fun i s => ∃ o2, s = li42St m xs hs o2 ap lt st k t.1 t.2 (fr : Int) i ∧ o2.length = m ∧ ∀ j, j < m → o2.getD j (0, 0) = if fr ≤ j ∧ j < fr + i then addP (o.getD j (0, 0)) (timP t (xs.getD (j - fr) (0, 0))) else o.getD j (0, 0))
    (fun s => ∃ o2, s = li42St m xs hs o2 ap lt st k t.1 t.2 (fr : Int) (min xs.length (m - fr)) ∧ o2.length = m ∧ ∀ j, j < m → o2.getD j (0, 0) = if fr ≤ j ∧ j < fr + xs.length then addP (o.getD j (0, 0)) (timP t (xs.getD (j - fr) (0, 0))) else o.getD j (0, 0))
    (min xs.length (m - fr)) (x := .exit 2) (by simp) rfl (by omega) ⟨o, rfl, ho, fun j hj => by rw [if_neg (by omega)]⟩
    (fun i s hi hs => by
      obtain ⟨o2, rfl, hg, hf⟩ := hs
      have hi1 : i < xs.length := by omega
      have hi2 : fr + i < m := by omega
      have e : IntKind.wrap .i64 ((fr : Int) + (i : Int)) = ((fr + i : Nat) : Int) := by rw [wrap_id (by omega)]; omega
      have c1 : decide (IntKind.wrap .i64 ((fr : Int) + (i : Int)) ≥ (m : Int)) = false := by rw [e]; exact dF (by omega)
      have i1 : Con.holds ⟨fnOf, specX, L+1⟩ (runF ⟨fnOf, specX, L+1⟩ n) (.ix (.int .i64 (IntKind.wrap .i64 ((fr : Int) + (i : Int)))) m (fr + i)) := by rw [e]; exact ix_at hi2
      have a1 : Con.holds ⟨fnOf, specX, L+1⟩ (runF ⟨fnOf, specX, L+1⟩ n) (.at (o2.map celC) (0 + (fr + i)) [.cpx (o2.getD (fr + i) (0, 0)).1 (o2.getD (fr + i) (0, 0)).2]) := by
        rw [Nat.zero_add]; exact atD_map (f := celC) (by omega)
      have := @xyi42_1 (L+1) n xs hs o2 [] ap lt (fr : Int) st (i :: π) [] m k t.1 t.2 i (xs.getD i (0, 0)) (fr + i) (o2.getD (fr + i) (0, 0)) (fr + i) (o2.getD (fr + i) (0, 0)) (by rw [hkx]; exact dLt hi1) (elD_map (f := celC) hi1) c1 i1 a1 i1 a1
      rw [wrap_id (n := (i : Int) + 1) (by omega)] at this
      refine ⟨_, this, o2.set (fr + i) (addP (o2.getD (fr + i) (0, 0)) (timP t (xs.getD i (0, 0)))), ?_, by rw [List.length_set, hg], fun j hj => ?_⟩
      · unfold li42St
        rw [List.map_set, Nat.zero_add]
        rfl
      · rw [getD_sets (by omega)]
        by_cases hj2 : fr + i = j
        · subst hj2
          rw [if_pos rfl, if_pos (by omega), hf _ hi2, if_neg (by omega), show fr + i - fr = i by omega]
        · rw [if_neg hj2, hf j hj]
          by_cases h3 : fr ≤ j ∧ j < fr + i
          · rw [if_pos h3, if_pos (by omega)]
          · rw [if_neg h3, if_neg (by omega)])
    (fun s hs => by
      obtain ⟨o2, rfl, hg, hf⟩ := hs
      have hend : ∀ j, j < m → o2.getD j (0, 0) = if fr ≤ j ∧ j < fr + xs.length then addP (o.getD j (0, 0)) (timP t (xs.getD (j - fr) (0, 0))) else o.getD j (0, 0) := fun j hj => by
        rw [hf j hj]
        by_cases h3 : fr ≤ j ∧ j < fr + xs.length
        · rw [if_pos h3, if_pos (by omega)]
        · rw [if_neg h3, if_neg (by omega)]
      by_cases hq : min xs.length (m - fr) < xs.length
      · have e : IntKind.wrap .i64 ((fr : Int) + ((min xs.length (m - fr) : Nat) : Int)) = ((fr + min xs.length (m - fr) : Nat) : Int) := by rw [wrap_id (by omega)]; omega
        refine ⟨_, @xyi42_0 (L+1) n xs hs o2 [] ap lt (fr : Int) st (min xs.length (m - fr) :: π) [] m k t.1 t.2 (min xs.length (m - fr)) (xs.getD (min xs.length (m - fr)) (0, 0)) (by rw [hkx]; exact dLt hq) (elD_map (f := celC) hq) (by rw [e]; exact dT (by omega)), o2, rfl, hg, hend⟩
      · exact ⟨_, @xyi42_2 (L+1) n xs hs o2 [] ap lt (fr : Int) st (min xs.length (m - fr) :: π) [] m k t.1 t.2 (min xs.length (m - fr)) (by rw [hkx]; exact dF (by omega)), o2, rfl, hg, hend⟩)
  exact ⟨_, o2, g1, g2, g3⟩
theorem layX {st τ : List Nat} {ap lt m : Nat} {o : List (Nat × Nat)} (ho : o.length = m) (hm : m ≤ 70000) (hx : xs.length ≤ 70000) (hh : hs.length ≤ 64) (hap : ap ≤ 8) (hlt : lt ≤ 70000) (hL : 70000 ≤ L) :
    ∃ o2, runF ⟨fnOf, specX, L+1⟩ (n+1) 1 (0 :: τ) 40 [.slc ⟨0,42,0⟩ st 1 0 m true, .lst 1 (xs.map celC), .lst 1 (hs.map celC), .int .i64 (ap : Int), .int .i64 (lt : Int)] [(⟨0,42,0⟩, ⟨st, o.map celC, 1, true⟩)] = some ((.tup []), [((.mk 0 42 0), (.mk st (List.map celC o2) 1 true))]) ∧
      o2.length = m ∧ ∀ j, j < m → o2.getD j (0, 0) = accL hs xs ap ((j : Int) - lt) (o.getD j (0, 0)) hs.length := by
  have hkh : (hs.map celC).length = hs.length := map_len
  obtain ⟨s', g1, o2, rfl, g2, g3⟩ := loopJ (P := ⟨fnOf, specX, L+1⟩) (C := runF ⟨fnOf, specX, L+1⟩ n) (L := L) (d := 1) (live := [0, 1, 3, 4, 17, 18, 19]) (π := [3, 0] ++ τ) (m := m40b1) (A := lo42St m xs hs o (ap : Int) (lt : Int) st 0)
    (fun k s => ∃ o2, s = lo42St m xs hs o2 (ap : Int) (lt : Int) st k ∧ o2.length = m ∧ ∀ j, j < m → o2.getD j (0, 0) = accL hs xs ap ((j : Int) - lt) (o.getD j (0, 0)) k)
    (fun s => ∃ o2, s = lo42St m xs hs o2 (ap : Int) (lt : Int) st hs.length ∧ o2.length = m ∧ ∀ j, j < m → o2.getD j (0, 0) = accL hs xs ap ((j : Int) - lt) (o.getD j (0, 0)) hs.length)
    hs.length (x := .exit 0) (by simp) rfl (by omega) ⟨o, rfl, ho, fun j hj => rfl⟩
    (fun k s hk hs' => by
      obtain ⟨o2, rfl, hg, hf⟩ := hs'
      have hkap : k * ap ≤ 64 * 8 := Nat.mul_le_mul (by omega) hap
      have e : IntKind.wrap .i64 ((lt : Int) + IntKind.wrap .i64 ((k : Int) * (ap : Int))) = ((lt + k * ap : Nat) : Int) := by
        have e0 : (k : Int) * (ap : Int) = ((k * ap : Nat) : Int) := by rw [Int.natCast_mul]
        rw [e0]
        generalize k * ap = q at hkap
        rw [wrap_id (n := ((q : Nat) : Int)) (by omega), wrap_id (by omega)]; omega
      obtain ⟨i, o3, l1, l2, l3⟩ := @layIX L n xs hs st ([15] ++ (k :: ([3, 0] ++ τ))) (ap : Int) (lt : Int) o2 m k (lt + k * ap) (hs.getD k (0, 0)) hg (by omega) (by omega) (by omega) (by omega)
      have l1' := l1
      unfold li42St at l1'
      rw [← e] at l1'
      have := @xyo42_0 (L+1) n xs hs o2 o3 (ap : Int) (lt : Int) _ st (k :: ([3, 0] ++ τ)) [] m k _ _ i (hs.getD k (0, 0)) (by rw [hkh]; exact dLt hk) (elD_map (f := celC) hk) l1'
      rw [wrap_id (n := (k : Int) + 1) (by omega)] at this
      refine ⟨_, this, o3, rfl, l2, fun j hj => ?_⟩
      rw [l3 j hj, hf j hj]
      show _ = if _ then _ else _
      generalize k * ap = q at *
      by_cases h3 : lt + q ≤ j ∧ j < lt + q + xs.length
      · rw [if_pos h3, if_pos (by omega), show ((j : Int) - lt - (q : Nat)).toNat = j - (lt + q) by omega]
      · rw [if_neg h3, if_neg (by omega)])
    (fun s hs' => by
      obtain ⟨o2, rfl, hg, hf⟩ := hs'
      exact ⟨_, @xyo42_1 (L+1) n xs hs o2 [] (ap : Int) (lt : Int) 0 st (hs.length :: ([3, 0] ++ τ)) [] m hs.length 0 0 0 (by rw [hkh]; exact dNlt), o2, rfl, hg, hf⟩)
  exact ⟨o2, @xy42_0 (L+1) n xs hs o o2 (ap : Int) (lt : Int) 0 st [] τ m hs.length 0 0 0 g1, g2, g3⟩
theorem throughX {at' : Int} {ap : Nat} (ha : at'.natAbs ≤ 200000) (hh : hs.length ≤ 64) (hx : xs.length ≤ 100000) (hap : ap ≤ 8) (hL : 64 ≤ L) :
    den ⟨fnOf, specX, L+1⟩ (n+1) 42 [.lst 1 (hs.map celC), .lst 1 (xs.map celC), .int .i64 at', .int .i64 (ap : Int)] = some (.cpx (accL hs xs ap at' (0, 0) hs.length).1 (accL hs xs ap at' (0, 0) hs.length).2) := by
  have hkh : (hs.map celC).length = hs.length := map_len
  have hkx : (xs.map celC).length = xs.length := map_len
  refine @xth_0 (L+1) n hs xs at' (ap : Int) _ _ hs.length ?_
  refine loopX (res := m42.res) (fun k => thSt hs xs at' (ap : Int) (accL hs xs ap at' (0, 0) k).1 (accL hs xs ap at' (0, 0) k).2 k) hs.length rfl (by omega) (fun k hk => ?_) ?_ (by simp)
  · have hkap : k * ap ≤ 64 * 8 := Nat.mul_le_mul (by omega) hap
    have e : IntKind.wrap .i64 (at' - IntKind.wrap .i64 ((k : Int) * (ap : Int))) = at' - (k * ap : Nat) := by
      have e0 : (k : Int) * (ap : Int) = ((k * ap : Nat) : Int) := by rw [Int.natCast_mul]
      rw [e0]
      generalize k * ap = q at hkap
      rw [wrap_id (n := ((q : Nat) : Int)) (by omega), wrap_id (by omega)]
    have h0 : decide ((k : Int) < ((hs.map celC).length : Int)) = true := by rw [hkh]; exact dLt hk
    have w : IntKind.wrap .i64 ((k : Int) + 1) = ((k + 1 : Nat) : Int) := by rw [wrap_id (by omega)]; omega
    by_cases c1 : 0 ≤ at' - (k * ap : Nat)
    · by_cases c2 : at' - (k * ap : Nat) < xs.length
      · have he : Con.holds ⟨fnOf, specX, L+1⟩ (runF ⟨fnOf, specX, L+1⟩ n) (.el (xs.map celC) (.int .i64 (IntKind.wrap .i64 (at' - IntKind.wrap .i64 ((k : Int) * (ap : Int))))) [.cpx (xs.getD (at' - (k * ap : Nat)).toNat (0, 0)).1 (xs.getD (at' - (k * ap : Nat)).toNat (0, 0)).2]) := by
          rw [e]
          have := elD_map (P := ⟨fnOf, specX, L+1⟩) (C := runF ⟨fnOf, specX, L+1⟩ n) (f := celC) (d := (0, 0)) (xs := xs) (i := (at' - (k * ap : Nat)).toNat) (by omega)
          rw [show (((at' - (k * ap : Nat)).toNat : Nat) : Int) = at' - (k * ap : Nat) by omega] at this
          exact this
        have := @xthr_0 (L+1) n hs xs at' (ap : Int) (accL hs xs ap at' (0, 0) k).1 (accL hs xs ap at' (0, 0) k).2 k [4] (hs.getD k (0, 0)) (xs.getD (at' - (k * ap : Nat)).toNat (0, 0)) h0 (by rw [e]; exact dT (by omega)) (by rw [e, hkx]; exact dT c2) (elD_map (f := celC) hk) he
        rw [w] at this
        have ea : accL hs xs ap at' (0, 0) (k + 1) = addP (accL hs xs ap at' (0, 0) k) (timP (hs.getD k (0, 0)) (xs.getD (at' - (k * ap : Nat)).toNat (0, 0))) := if_pos ⟨c1, c2⟩
        rw [ea]
        exact this
      · have := @xthr_1 (L+1) n hs xs at' (ap : Int) (accL hs xs ap at' (0, 0) k).1 (accL hs xs ap at' (0, 0) k).2 k [4] h0 (by rw [e]; exact dT (by omega)) (by rw [e, hkx]; exact dF c2)
        rw [w] at this
        have ea : accL hs xs ap at' (0, 0) (k + 1) = accL hs xs ap at' (0, 0) k := if_neg (fun h => c2 h.2)
        rw [ea]
        exact this
    · have := @xthr_2 (L+1) n hs xs at' (ap : Int) (accL hs xs ap at' (0, 0) k).1 (accL hs xs ap at' (0, 0) k).2 k [4] h0 (by rw [e]; exact dF (by omega))
      rw [w] at this
      have ea : accL hs xs ap at' (0, 0) (k + 1) = accL hs xs ap at' (0, 0) k := if_neg (fun h => c1 h.1)
      rw [ea]
      exact this
  · exact @xthr_3 (L+1) n hs xs at' (ap : Int) _ _ hs.length [4] (by rw [hkh]; exact dNlt)
end
end Go.Proofs.Ytnphdnokedhhkaa.Fw
