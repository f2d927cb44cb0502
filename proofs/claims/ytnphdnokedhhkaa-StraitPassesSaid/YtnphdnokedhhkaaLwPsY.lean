/- Pass: the program's and the document's answer; the same, number by number. -/
import Derived.Test.YtnphdnokedhhkaaLwPsX
import Derived.Test.YtnphdnokedhhkaaLwJnB
set_option maxRecDepth 100000
set_option maxHeartbeats 4000000
set_option linter.unusedSimpArgs false
set_option linter.unusedVariables false
namespace Go.Proofs.Ytnphdnokedhhkaa.Fw
open Go Go.RowKit
def passE (rate delay nn : Int) (ts es xs vs : List (Nat × Nat)) : Int :=
  if chkT rate delay ts es ≠ 0 then chkT rate delay ts es
  else if nn < 0 ∨ 65536 < nn ∨ 65536 < xs.length ∨ 65536 < vs.length then 1
  else if rowF xs = true ∧ rowF vs = true then 0 else 7
def passP (rate delay nn : Int) (ts es xs vs : List (Nat × Nat)) : List (Nat × Nat) := tab (fun m => outP' ts xs es vs rate.toNat (m : Int) delay.toNat) nn.toNat
def passD (rate delay nn : Int) (ts es xs vs : List (Nat × Nat)) : List (Nat × Nat) := tab (fun m => outD' ts xs es vs rate.toNat (m : Int) delay.toNat) nn.toNat
def passA (e : Int) (l : List (Nat × Nat)) : AV := if e = 0 then .tup [.own 1 (l.map celC) true, .int .i64 0] else .tup [.nils, .int .i64 e]
section
variable {L n : Nat} {rate delay nn : Int} {ts es xs vs : List (Nat × Nat)}
theorem pass_both (hL : 70000 ≤ L) (m1 : shortL ts) (m2 : shortL es) (m3 : shortL xs) (m4 : shortL vs) :
    den ⟨fnOf, specX, L+1⟩ (n+2) 19 [.agg [.int .i64 rate, .int .i64 delay, .lst 1 (ts.map celC), .lst 1 (es.map celC)], .lst 1 (xs.map celC), .lst 1 (vs.map celC), .int .i64 nn] = some (passA (passE rate delay nn ts es xs vs) (passP rate delay nn ts es xs vs)) ∧
    den ⟨fnOf, specX, L+1⟩ (n+2) 20 [.agg [.int .i64 rate, .int .i64 delay, .lst 1 (ts.map celC), .lst 1 (es.map celC)], .lst 1 (xs.map celC), .lst 1 (vs.map celC), .int .i64 nn] = some (passA (passE rate delay nn ts es xs vs) (passD rate delay nn ts es xs vs)) := by
  have hlx : (xs.map celC).length = xs.length := map_len
  have hlv : (vs.map celC).length = vs.length := map_len
  have p1 := spec_is (P := ⟨fnOf, specX, L+1⟩) (C := runF ⟨fnOf, specX, L+1⟩ (n+1)) (f := 22) rfl (chkSem_at (rate := rate) (delay := delay) m1 m2)
  have d1 := spec_is (P := ⟨fnOf, specX, L+1⟩) (C := runF ⟨fnOf, specX, L+1⟩ (n+1)) (f := 23) rfl (chkSem_at (rate := rate) (delay := delay) m1 m2)
  unfold passA
  by_cases a1 : chkT rate delay ts es = 0
  case neg =>
    have e : passE rate delay nn ts es xs vs = chkT rate delay ts es := if_pos a1
    rw [e, if_neg a1, if_neg a1]
    have b1 : (chkT rate delay ts es != 0) = true := by simpa using a1
    exact ⟨@pap_0 (L+1) (n+1) rate delay nn ts es xs vs [] [] 0 0 0 [] [] _ p1 b1, @pad_0 (L+1) (n+1) rate delay nn ts es xs vs [] [] 0 0 0 [] [] _ d1 b1⟩
  have n1 : (chkT rate delay ts es != 0) = false := by rw [a1]; rfl
  obtain ⟨r1, r2, q1, q2, t1, t2⟩ := chkT_ok a1
  obtain ⟨u1, u2, _, _⟩ := tapsF_is.1 t1
  have hes : es.length ≤ 64 := by
    rcases t2 with h | h
    · omega
    · exact (tapsF_is.1 h).2.1
  have hE : passE rate delay nn ts es xs vs = if nn < 0 ∨ 65536 < nn ∨ 65536 < xs.length ∨ 65536 < vs.length then 1 else if rowF xs = true ∧ rowF vs = true then 0 else 7 := if_neg (by simp [a1])
  by_cases a2 : nn < 0
  · have e : passE rate delay nn ts es xs vs = 1 := by rw [hE, if_pos (.inl a2)]
    rw [e]
    exact ⟨@pap_1 (L+1) (n+1) rate delay nn ts es xs vs [] [] 0 0 0 [] [] _ p1 n1 (dT a2), @pad_1 (L+1) (n+1) rate delay nn ts es xs vs [] [] 0 0 0 [] [] _ d1 n1 (dT a2)⟩
  by_cases a3 : nn > 65536
  · have e : passE rate delay nn ts es xs vs = 1 := by rw [hE, if_pos (.inr (.inl a3))]
    rw [e]
    exact ⟨@pap_2 (L+1) (n+1) rate delay nn ts es xs vs [] [] 0 0 0 [] [] _ p1 n1 (dF a2) (dT a3), @pad_2 (L+1) (n+1) rate delay nn ts es xs vs [] [] 0 0 0 [] [] _ d1 n1 (dF a2) (dT a3)⟩
  by_cases a4 : 65536 < xs.length
  · have e : passE rate delay nn ts es xs vs = 1 := by rw [hE, if_pos (.inr (.inr (.inl a4)))]
    have b4 : decide (((xs.map celC).length : Int) > 65536) = true := by rw [hlx]; exact dT (by omega)
    rw [e]
    exact ⟨@pap_3 (L+1) (n+1) rate delay nn ts es xs vs [] [] 0 0 0 [] [] _ p1 n1 (dF a2) (dF a3) b4, @pad_3 (L+1) (n+1) rate delay nn ts es xs vs [] [] 0 0 0 [] [] _ d1 n1 (dF a2) (dF a3) b4⟩
  have n4 : decide (((xs.map celC).length : Int) > 65536) = false := by rw [hlx]; exact dF (by omega)
  by_cases a5 : 65536 < vs.length
  · have e : passE rate delay nn ts es xs vs = 1 := by rw [hE, if_pos (.inr (.inr (.inr a5)))]
    have b5 : decide (((vs.map celC).length : Int) > 65536) = true := by rw [hlv]; exact dT (by omega)
    rw [e]
    exact ⟨@pap_4 (L+1) (n+1) rate delay nn ts es xs vs [] [] 0 0 0 [] [] _ p1 n1 (dF a2) (dF a3) n4 b5, @pad_4 (L+1) (n+1) rate delay nn ts es xs vs [] [] 0 0 0 [] [] _ d1 n1 (dF a2) (dF a3) n4 b5⟩
  have n5 : decide (((vs.map celC).length : Int) > 65536) = false := by rw [hlv]; exact dF (by omega)
  have hE2 : passE rate delay nn ts es xs vs = if rowF xs = true ∧ rowF vs = true then 0 else 7 := by rw [hE, if_neg (by omega)]
  have x1 := spec_is (P := ⟨fnOf, specX, L+1⟩) (C := runF ⟨fnOf, specX, L+1⟩ (n+1)) (f := 44) rfl (rowSem_at m3)
  have x2 := spec_is (P := ⟨fnOf, specX, L+1⟩) (C := runF ⟨fnOf, specX, L+1⟩ (n+1)) (f := 44) rfl (rowSem_at m4)
  have y1 := spec_is (P := ⟨fnOf, specX, L+1⟩) (C := runF ⟨fnOf, specX, L+1⟩ (n+1)) (f := 45) rfl (rowSem_at m3)
  have y2 := spec_is (P := ⟨fnOf, specX, L+1⟩) (C := runF ⟨fnOf, specX, L+1⟩ (n+1)) (f := 45) rfl (rowSem_at m4)
  cases c1 : rowF xs with
  | false =>
    have e : passE rate delay nn ts es xs vs = 7 := by rw [hE2, if_neg (by rw [c1]; simp)]
    rw [e]
    exact ⟨@pap_5 (L+1) (n+1) rate delay nn ts es xs vs [] [] 0 0 0 [] [] _ _ p1 n1 (dF a2) (dF a3) n4 n5 x1 (by rw [c1]; rfl), @pad_5 (L+1) (n+1) rate delay nn ts es xs vs [] [] 0 0 0 [] [] _ _ d1 n1 (dF a2) (dF a3) n4 n5 y1 (by rw [c1]; rfl)⟩
  | true =>
  cases c2 : rowF vs with
  | false =>
    have e : passE rate delay nn ts es xs vs = 7 := by rw [hE2, if_neg (by rw [c2]; simp)]
    rw [e]
    exact ⟨@pap_6 (L+1) (n+1) rate delay nn ts es xs vs [] [] 0 0 0 [] [] _ _ _ p1 n1 (dF a2) (dF a3) n4 n5 x1 (by rw [c1]; rfl) x2 (by rw [c2]; rfl), @pad_6 (L+1) (n+1) rate delay nn ts es xs vs [] [] 0 0 0 [] [] _ _ _ d1 n1 (dF a2) (dF a3) n4 n5 y1 (by rw [c1]; rfl) y2 (by rw [c2]; rfl)⟩
  | true =>
  have e : passE rate delay nn ts es xs vs = 0 := by rw [hE2, if_pos ⟨c1, c2⟩]
  rw [e, if_pos rfl, if_pos rfl]
  obtain ⟨r, rfl⟩ : ∃ r : Nat, rate = r := ⟨rate.toNat, by omega⟩
  obtain ⟨d, rfl⟩ : ∃ d : Nat, delay = d := ⟨delay.toNat, by omega⟩
  obtain ⟨N, rfl⟩ : ∃ N : Nat, nn = N := ⟨nn.toNat, by omega⟩
  have hpl : (passP (r : Int) (d : Int) (N : Int) ts es xs vs).length = N := tab_len
  have hdl : (passD (r : Int) (d : Int) (N : Int) ts es xs vs).length = N := tab_len
  constructor
  · obtain ⟨o2, g1, g2, g3⟩ := @layX L n xs ts [33] [43] r d N (List.replicate N (0, 0)) List.length_replicate (by omega) (by omega) u2 (by omega) (by omega) hL
    obtain ⟨o3, h1, h2, h3⟩ := @layX L n vs es [33] [48] 1 0 N o2 g2 (by omega) (by omega) hes (by decide) (by decide) hL
    have go : o3 = passP (r : Int) (d : Int) (N : Int) ts es xs vs := eq_tab h2 fun j hj => by
      have e0 : (List.replicate N ((0, 0) : Nat × Nat)).getD j (0, 0) = (0, 0) := by
        rw [List.getD_eq_getElem?_getD, List.getElem?_replicate]; split <;> rfl
      rw [h3 j hj, g3 j hj, e0, show ((j : Int) - ((0 : Nat) : Int)) = (j : Int) by omega]
      rfl
    subst go
    have hmk : Con.holds ⟨fnOf, specX, L+1⟩ (runF ⟨fnOf, specX, L+1⟩ (n+1)) (.mk N N true ((List.replicate N (0, 0)).map celC) (N : Int) (N : Int) 16 [.cpx 0 0]) := mk_ok (f := celC) rfl (by simp only [most]; omega) (by simp only [most]; omega)
    have hle : Con.holds ⟨fnOf, specX, L+1⟩ (runF ⟨fnOf, specX, L+1⟩ (n+1)) (.le N ((passP (r : Int) (d : Int) (N : Int) ts es xs vs).map celC).length) := by
      show _ ≤ _; rw [show List.length _ = _ from map_len, hpl]; exact Nat.le_refl _
    have := @pap_7 (L+1) (n+1) (r : Int) (d : Int) (N : Int) ts es xs vs o2 (passP (r : Int) (d : Int) (N : Int) ts es xs vs) N 0 0 [] [] _ _ _ p1 n1 (dF a2) (dF a3) n4 n5 x1 (by rw [c1]; rfl) x2 (by rw [c2]; rfl) hmk g1 h1 hle
    rw [tkMap hpl.symm] at this
    exact this
  · obtain ⟨s', l1, st, rfl⟩ := loopJ (P := ⟨fnOf, specX, L+1⟩) (C := runF ⟨fnOf, specX, L+1⟩ (n+1)) (L := L) (d := 0) (live := [1, 2, 3, 4, 11, 12]) (π := [34]) (m := m20b0) (A := pdSt (r : Int) (d : Int) (N : Int) ts es xs vs [] [34] 0 0)
      (fun i s => ∃ st, s = pdSt (r : Int) (d : Int) (N : Int) ts es xs vs (tab (fun m => outD' ts xs es vs r (m : Int) d) i) st i i)
      (fun s => ∃ st, s = pdSt (r : Int) (d : Int) (N : Int) ts es xs vs (passD (r : Int) (d : Int) (N : Int) ts es xs vs) st N N) N (x := .exit 0) (by simp) rfl (by omega) ⟨[34], rfl⟩
      (fun i s hi hs => by
        obtain ⟨st, rfl⟩ := hs
        have hp : Con.holds ⟨fnOf, specX, L+1⟩ (runF ⟨fnOf, specX, L+1⟩ (n+1)) (.push i 1 16 ((tab (fun m => outD' ts xs es vs r (m : Int) d) i).map celC)) := push_ok (by rw [map_len, tab_len]) (by simp only [most]; omega)
        have w : IntKind.wrap .i64 ((i : Int) - (d : Int)) = (i : Int) - d := wrap_id (by omega)
        have hc1 := call_den (@throughX L n xs ts ((i : Int) - d) r (by omega) u2 (by omega) (by omega) (by omega))
        have hc2 := call_den (@throughX L n vs es (i : Int) 1 (by omega) hes (by omega) (by decide) (by omega))
        have := @padr_0 (L+1) (n+1) (r : Int) (d : Int) (N : Int) ts es xs vs (tab (fun m => outD' ts xs es vs r (m : Int) d) i) [] 0 i i st [i, 34] _ _ (dLt hi) (by rw [w]; exact hc1) hc2 hp
        rw [wrap_id (n := (i : Int) + 1) (by omega)] at this
        refine ⟨_, this, [33, i, 34], ?_⟩
        unfold pdSt
        rw [tab_up, List.map_append]
        rfl)
      (fun s hs => by
        obtain ⟨st, rfl⟩ := hs
        exact ⟨_, @padr_1 (L+1) (n+1) (r : Int) (d : Int) (N : Int) ts es xs vs (passD (r : Int) (d : Int) (N : Int) ts es xs vs) [] 0 N N st [N, 34] dNlt, st, rfl⟩)
    have hle : Con.holds ⟨fnOf, specX, L+1⟩ (runF ⟨fnOf, specX, L+1⟩ (n+1)) (.le N ((passD (r : Int) (d : Int) (N : Int) ts es xs vs).map celC).length) := by
      show _ ≤ _; rw [show List.length _ = _ from map_len, hdl]; exact Nat.le_refl _
    have := @pad_7 (L+1) (n+1) (r : Int) (d : Int) (N : Int) ts es xs vs (passD (r : Int) (d : Int) (N : Int) ts es xs vs) [] 0 N N st [] _ _ _ d1 n1 (dF a2) (dF a3) n4 n5 y1 (by rw [c1]; rfl) y2 (by rw [c2]; rfl) l1 hle
    rw [tkMap hdl.symm] at this
    exact this
/-- BOTH ROWS ARE THE SAME, number by number -/
theorem pass_same (h : passE rate delay nn ts es xs vs = 0) : (passP rate delay nn ts es xs vs).length = nn.toNat ∧ (passD rate delay nn ts es xs vs).length = nn.toNat ∧ nn ≤ 65536 ∧ ∀ i, i < nn.toNat →
    ∃ a b : Int, a.natAbs ≤ 134217728 ∧ b.natAbs ≤ 134217728 ∧ grid a ((passP rate delay nn ts es xs vs).getD i (0, 0)).1 ∧ grid b ((passP rate delay nn ts es xs vs).getD i (0, 0)).2 ∧ grid a ((passD rate delay nn ts es xs vs).getD i (0, 0)).1 ∧ grid b ((passD rate delay nn ts es xs vs).getD i (0, 0)).2 := by
  have a1 : chkT rate delay ts es = 0 := by
    by_cases c : chkT rate delay ts es = 0
    · exact c
    · unfold passE at h; rw [if_pos c] at h; exact absurd h c
  have hE : passE rate delay nn ts es xs vs = if nn < 0 ∨ 65536 < nn ∨ 65536 < xs.length ∨ 65536 < vs.length then 1 else if rowF xs = true ∧ rowF vs = true then 0 else 7 := if_neg (by simp [a1])
  rw [hE] at h
  split at h
  · cases h
  rename_i h2
  split at h
  · rename_i h3
    obtain ⟨_, _, _, _, t1, t2⟩ := chkT_ok a1
    obtain ⟨_, u2, u3, _⟩ := tapsF_is.1 t1
    have e1 : es.length ≤ 64 ∧ ∀ i, i < es.length → okTap (es.getD i (0, 0)) = true := by
      rcases t2 with h | h
      · exact ⟨by omega, fun i hi => by omega⟩
      · exact ⟨(tapsF_is.1 h).2.1, (tapsF_is.1 h).2.2.1⟩
    refine ⟨tab_len, tab_len, by omega, fun i hi => ?_⟩
    obtain ⟨a, b, z1, z2, z3, z4, z5, z6⟩ := @out_same ts xs es vs rate.toNat delay.toNat (i : Int) u2 e1.1 u3 (rowF_is.1 h3.1) e1.2 (rowF_is.1 h3.2)
    refine ⟨a, b, z1, z2, ?_⟩
    unfold passP passD
    rw [tab_at hi, tab_at hi]
    exact ⟨z3, z4, z5, z6⟩
  · cases h
end
end Go.Proofs.Ytnphdnokedhhkaa.Fw
