/- Pass: the program's and the document's answer; the same, number by number. | Pass spoken for (a failed one hands an empty row); made, same, samePoints by their own answers. | door, Door, near, Grid: paths, printed by a program of ours. | The nearest step of 2^-6 of a number up to 2^20: both ways the same. | The nearest step with a floor kept as a float; near, door$1 of chapter 10: what they answer. | door$1 and near spoken for. | door, Door, Grid with near spoken for: paths, printed by a program of ours. | door, Door, Grid: what they answer; spoken for. | Arrive (the program's and the document's): paths, printed by a program of ours. | Arrive: the program's and the document's answer. | Arrive: the bursts' loops; what the program and the document answer. | Arrive: the program's and the document's answer, spoken for. | Check, plain, Rows spoken for with nil lists, too. | Arrive spoken for (nil lists, too); samples and bursts compared. | What comes through a strait, as whole numbers: a sum over the taps; no program in sight. | Taps' sums and what comes through, bounded; no program in sight. | turned numbers: taps turned by quarters are taps. | turned (the program's and the document's): paths, printed by a program of ours. | turned spoken for, the program's and the document's. | First (the program's and the document's), Turned, Halved, changed: paths, printed by a program of ours. | First: the program's and the document's answer. | what Turned and Halved do to each tap, spoken for. | slices.Clone of an empty list, nil or not, by hand (whether it is nil is not the evaluator's to say). | Turned, Halved, changed, Clone: paths, printed by a program of ours. | Turned and Halved: the program's and the document's answer. | works() of chapter 10, spoken for. | filter, fit, plain, onGrid of chapter 10: paths, printed by a program of ours. | filter, fit, plain, onGrid of chapter 10: what they answer. | The outright statements of chapter 10: what is spoken for. | StraitLinear: paths, printed by a program of ours. | StraitTwo: paths, printed by a program of ours. | StraitLate: paths, printed by a program of ours. | StraitLate: later, halved; the law's own run. | Two sums over taps, one behind the other, are one sum over the joined taps: whole numbers alone. -/
import Derived.Test.YtnphdnokedhhkaaFwY
import Derived.Test.YtnphdnokedhhkaaFwAbs
import Derived.Test.YtnphdnokedhhkaaFwW
import Derived.KernelRfl
import Derived.Shelf.RegionOpenPlain
import Derived.WalkKit
import Derived.Deep.LoopGhost
import Derived.Lib.Walk
import Derived.Lib.SliceRun
import Derived.Test.YtnphdnokedhhkaaLwM0
set_option maxRecDepth 100000
set_option maxHeartbeats 4000000
set_option linter.unusedSimpArgs false
set_option linter.unusedVariables false
set_option exponentiation.threshold 4000
namespace Go.Proofs.Ytnphdnokedhhkaa.Fw
open Go Go.RowKit
def passE (rate delay nn : Int) (ts es xs vs : List (Nat × Nat)) : Int :=
  if chkT rate delay ts es ≠ 0 then chkT rate delay ts es
  else if nn < 0 ∨ 65536 < nn ∨ 65536 < xs.length ∨ 65536 < vs.length then 1
  else if rowF xs = true ∧ rowF vs = true then 0 else 7
def passP (rate delay nn : Int) (ts es xs vs : List (Nat × Nat)) : List (Nat × Nat) := tab (fun m => outP' ts xs es vs rate.toNat (m : Int) delay.toNat) nn.toNat
def passD (rate delay nn : Int) (ts es xs vs : List (Nat × Nat)) : List (Nat × Nat) := tab (fun m => outD' ts xs es vs rate.toNat (m : Int) delay.toNat) nn.toNat
def passA (e : Int) (l : List (Nat × Nat)) : AV := if e = 0 then .tup [.own 1 (l.map celC) true, .int .i64 0] else .tup [.nils, .int .i64 e]
section
variable {L n : Nat} {rate delay nn : Int} {ts es xs vs : List (Nat × Nat)}
theorem pass_both (hL : 70000 ≤ L) (m1 : shortL ts) (m2 : shortL es) (m3 : shortL xs) (m4 : shortL vs) :
    den ⟨fnOf, specX, L+1⟩ (n+2) 19 [.agg [.int .i64 rate, .int .i64 delay, .lst 1 (ts.map celC), .lst 1 (es.map celC)], .lst 1 (xs.map celC), .lst 1 (vs.map celC), .int .i64 nn] = some (passA (passE rate delay nn ts es xs vs) (passP rate delay nn ts es xs vs)) ∧
    den ⟨fnOf, specX, L+1⟩ (n+2) 20 [.agg [.int .i64 rate, .int .i64 delay, .lst 1 (ts.map celC), .lst 1 (es.map celC)], .lst 1 (xs.map celC), .lst 1 (vs.map celC), .int .i64 nn] = some (passA (passE rate delay nn ts es xs vs) (passD rate delay nn ts es xs vs)) := by
  have hlx : (xs.map celC).length = xs.length := map_len
  have hlv : (vs.map celC).length = vs.length := map_len
  have p1 := spec_is (P := ⟨fnOf, specX, L+1⟩) (C := runF ⟨fnOf, specX, L+1⟩ (n+1)) (f := 22) rfl (chkSem_at (rate := rate) (delay := delay) m1 m2)
  have d1 := spec_is (P := ⟨fnOf, specX, L+1⟩) (C := runF ⟨fnOf, specX, L+1⟩ (n+1)) (f := 23) rfl (chkSem_at (rate := rate) (delay := delay) m1 m2)
  unfold passA
  by_cases a1 : chkT rate delay ts es = 0
  case neg =>
    have e : passE rate delay nn ts es xs vs = chkT rate delay ts es := if_pos a1
    rw [e, if_neg a1, if_neg a1]
    have b1 : (chkT rate delay ts es != 0) = true := by simpa using a1
    exact ⟨@pap_0 (L+1) (n+1) rate delay nn ts es xs vs [] [] 0 0 0 [] [] _ p1 b1, @pad_0 (L+1) (n+1) rate delay nn ts es xs vs [] [] 0 0 0 [] [] _ d1 b1⟩
  have n1 : (chkT rate delay ts es != 0) = false := by rw [a1]; rfl
  obtain ⟨r1, r2, q1, q2, t1, t2⟩ := chkT_ok a1
  obtain ⟨u1, u2, _, _⟩ := tapsF_is.1 t1
  have hes : es.length ≤ 64 := by
    rcases t2 with h | h
    · omega
    · exact (tapsF_is.1 h).2.1
  have hE : passE rate delay nn ts es xs vs = if nn < 0 ∨ 65536 < nn ∨ 65536 < xs.length ∨ 65536 < vs.length then 1 else if rowF xs = true ∧ rowF vs = true then 0 else 7 := if_neg (by simp [a1])
  by_cases a2 : nn < 0
  · have e : passE rate delay nn ts es xs vs = 1 := by rw [hE, if_pos (.inl a2)]
    rw [e]
    exact ⟨@pap_1 (L+1) (n+1) rate delay nn ts es xs vs [] [] 0 0 0 [] [] _ p1 n1 (dT a2), @pad_1 (L+1) (n+1) rate delay nn ts es xs vs [] [] 0 0 0 [] [] _ d1 n1 (dT a2)⟩
  by_cases a3 : nn > 65536
  · have e : passE rate delay nn ts es xs vs = 1 := by rw [hE, if_pos (.inr (.inl a3))]
    rw [e]
    exact ⟨@pap_2 (L+1) (n+1) rate delay nn ts es xs vs [] [] 0 0 0 [] [] _ p1 n1 (dF a2) (dT a3), @pad_2 (L+1) (n+1) rate delay nn ts es xs vs [] [] 0 0 0 [] [] _ d1 n1 (dF a2) (dT a3)⟩
  by_cases a4 : 65536 < xs.length
  · have e : passE rate delay nn ts es xs vs = 1 := by rw [hE, if_pos (.inr (.inr (.inl a4)))]
    have b4 : decide (((xs.map celC).length : Int) > 65536) = true := by rw [hlx]; exact dT (by omega)
    rw [e]
    exact ⟨@pap_3 (L+1) (n+1) rate delay nn ts es xs vs [] [] 0 0 0 [] [] _ p1 n1 (dF a2) (dF a3) b4, @pad_3 (L+1) (n+1) rate delay nn ts es xs vs [] [] 0 0 0 [] [] _ d1 n1 (dF a2) (dF a3) b4⟩
  have n4 : decide (((xs.map celC).length : Int) > 65536) = false := by rw [hlx]; exact dF (by omega)
  by_cases a5 : 65536 < vs.length
  · have e : passE rate delay nn ts es xs vs = 1 := by rw [hE, if_pos (.inr (.inr (.inr a5)))]
    have b5 : decide (((vs.map celC).length : Int) > 65536) = true := by rw [hlv]; exact dT (by omega)
    rw [e]
    exact ⟨@pap_4 (L+1) (n+1) rate delay nn ts es xs vs [] [] 0 0 0 [] [] _ p1 n1 (dF a2) (dF a3) n4 b5, @pad_4 (L+1) (n+1) rate delay nn ts es xs vs [] [] 0 0 0 [] [] _ d1 n1 (dF a2) (dF a3) n4 b5⟩
  have n5 : decide (((vs.map celC).length : Int) > 65536) = false := by rw [hlv]; exact dF (by omega)
  have hE2 : passE rate delay nn ts es xs vs = if rowF xs = true ∧ rowF vs = true then 0 else 7 := by rw [hE, if_neg (by omega)]
  have x1 := spec_is (P := ⟨fnOf, specX, L+1⟩) (C := runF ⟨fnOf, specX, L+1⟩ (n+1)) (f := 44) rfl (rowSem_at m3)
  have x2 := spec_is (P := ⟨fnOf, specX, L+1⟩) (C := runF ⟨fnOf, specX, L+1⟩ (n+1)) (f := 44) rfl (rowSem_at m4)
  have y1 := spec_is (P := ⟨fnOf, specX, L+1⟩) (C := runF ⟨fnOf, specX, L+1⟩ (n+1)) (f := 45) rfl (rowSem_at m3)
  have y2 := spec_is (P := ⟨fnOf, specX, L+1⟩) (C := runF ⟨fnOf, specX, L+1⟩ (n+1)) (f := 45) rfl (rowSem_at m4)
  cases c1 : rowF xs with
  | false =>
    have e : passE rate delay nn ts es xs vs = 7 := by rw [hE2, if_neg (by rw [c1]; simp)]
    rw [e]
    exact ⟨@pap_5 (L+1) (n+1) rate delay nn ts es xs vs [] [] 0 0 0 [] [] _ _ p1 n1 (dF a2) (dF a3) n4 n5 x1 (by rw [c1]; rfl), @pad_5 (L+1) (n+1) rate delay nn ts es xs vs [] [] 0 0 0 [] [] _ _ d1 n1 (dF a2) (dF a3) n4 n5 y1 (by rw [c1]; rfl)⟩
  | true =>
  cases c2 : rowF vs with
  | false =>
    have e : passE rate delay nn ts es xs vs = 7 := by rw [hE2, if_neg (by rw [c2]; simp)]
    rw [e]
    exact ⟨@pap_6 (L+1) (n+1) rate delay nn ts es xs vs [] [] 0 0 0 [] [] _ _ _ p1 n1 (dF a2) (dF a3) n4 n5 x1 (by rw [c1]; rfl) x2 (by rw [c2]; rfl), @pad_6 (L+1) (n+1) rate delay nn ts es xs vs [] [] 0 0 0 [] [] _ _ _ d1 n1 (dF a2) (dF a3) n4 n5 y1 (by rw [c1]; rfl) y2 (by rw [c2]; rfl)⟩
  | true =>
  have e : passE rate delay nn ts es xs vs = 0 := by rw [hE2, if_pos ⟨c1, c2⟩]
  rw [e, if_pos rfl, if_pos rfl]
  obtain ⟨r, rfl⟩ : ∃ r : Nat, rate = r := ⟨rate.toNat, by omega⟩
  obtain ⟨d, rfl⟩ : ∃ d : Nat, delay = d := ⟨delay.toNat, by omega⟩
  obtain ⟨N, rfl⟩ : ∃ N : Nat, nn = N := ⟨nn.toNat, by omega⟩
  have hpl : (passP (r : Int) (d : Int) (N : Int) ts es xs vs).length = N := tab_len
  have hdl : (passD (r : Int) (d : Int) (N : Int) ts es xs vs).length = N := tab_len
  constructor
  · obtain ⟨o2, g1, g2, g3⟩ := @layX L n xs ts [33] [43] r d N (List.replicate N (0, 0)) List.length_replicate (by omega) (by omega) u2 (by omega) (by omega) hL
    obtain ⟨o3, h1, h2, h3⟩ := @layX L n vs es [33] [48] 1 0 N o2 g2 (by omega) (by omega) hes (by decide) (by decide) hL
    have go : o3 = passP (r : Int) (d : Int) (N : Int) ts es xs vs := eq_tab h2 fun j hj => by
      have e0 : (List.replicate N ((0, 0) : Nat × Nat)).getD j (0, 0) = (0, 0) := by
        rw [List.getD_eq_getElem?_getD, List.getElem?_replicate]; split <;> rfl
      rw [h3 j hj, g3 j hj, e0, show ((j : Int) - ((0 : Nat) : Int)) = (j : Int) by omega]
      rfl
    subst go
    have hmk : Con.holds ⟨fnOf, specX, L+1⟩ (runF ⟨fnOf, specX, L+1⟩ (n+1)) (.mk N N true ((List.replicate N (0, 0)).map celC) (N : Int) (N : Int) 16 [.cpx 0 0]) := mk_ok (f := celC) rfl (by simp only [most]; omega) (by simp only [most]; omega)
    have hle : Con.holds ⟨fnOf, specX, L+1⟩ (runF ⟨fnOf, specX, L+1⟩ (n+1)) (.le N ((passP (r : Int) (d : Int) (N : Int) ts es xs vs).map celC).length) := by
      show _ ≤ _; rw [show List.length _ = _ from map_len, hpl]; exact Nat.le_refl _
    have := @pap_7 (L+1) (n+1) (r : Int) (d : Int) (N : Int) ts es xs vs o2 (passP (r : Int) (d : Int) (N : Int) ts es xs vs) N 0 0 [] [] _ _ _ p1 n1 (dF a2) (dF a3) n4 n5 x1 (by rw [c1]; rfl) x2 (by rw [c2]; rfl) hmk g1 h1 hle
    rw [tkMap hpl.symm] at this
    exact this
  · obtain ⟨s', l1, st, rfl⟩ := loopJ (P := ⟨fnOf, specX, L+1⟩) (C := runF ⟨fnOf, specX, L+1⟩ (n+1)) (L := L) (d := 0) (live := [1, 2, 3, 4, 11, 12]) (π := [34]) (m := m20b0) (A := pdSt (r : Int) (d : Int) (N : Int) ts es xs vs [] [34] 0 0)
      (fun i s => ∃ st, s = pdSt (r : Int) (d : Int) (N : Int) ts es xs vs (tab (fun m => outD' ts xs es vs r (m : Int) d) i) st i i)
      (fun s => ∃ st, s = pdSt (r : Int) (d : Int) (N : Int) ts es xs vs (passD (r : Int) (d : Int) (N : Int) ts es xs vs) st N N) N (x := .exit 0) (by simp) rfl (by omega) ⟨[34], rfl⟩
      (fun i s hi hs => by
        obtain ⟨st, rfl⟩ := hs
        have hp : Con.holds ⟨fnOf, specX, L+1⟩ (runF ⟨fnOf, specX, L+1⟩ (n+1)) (.push i 1 16 ((tab (fun m => outD' ts xs es vs r (m : Int) d) i).map celC)) := push_ok (by rw [map_len, tab_len]) (by simp only [most]; omega)
        have w : IntKind.wrap .i64 ((i : Int) - (d : Int)) = (i : Int) - d := wrap_id (by omega)
        have hc1 := call_den (@throughX L n xs ts ((i : Int) - d) r (by omega) u2 (by omega) (by omega) (by omega))
        have hc2 := call_den (@throughX L n vs es (i : Int) 1 (by omega) hes (by omega) (by decide) (by omega))
        have := @padr_0 (L+1) (n+1) (r : Int) (d : Int) (N : Int) ts es xs vs (tab (fun m => outD' ts xs es vs r (m : Int) d) i) [] 0 i i st [i, 34] _ _ (dLt hi) (by rw [w]; exact hc1) hc2 hp
        rw [wrap_id (n := (i : Int) + 1) (by omega)] at this
        refine ⟨_, this, [33, i, 34], ?_⟩
        unfold pdSt
        rw [tab_up, List.map_append]
        rfl)
      (fun s hs => by
        obtain ⟨st, rfl⟩ := hs
        exact ⟨_, @padr_1 (L+1) (n+1) (r : Int) (d : Int) (N : Int) ts es xs vs (passD (r : Int) (d : Int) (N : Int) ts es xs vs) [] 0 N N st [N, 34] dNlt, st, rfl⟩)
    have hle : Con.holds ⟨fnOf, specX, L+1⟩ (runF ⟨fnOf, specX, L+1⟩ (n+1)) (.le N ((passD (r : Int) (d : Int) (N : Int) ts es xs vs).map celC).length) := by
      show _ ≤ _; rw [show List.length _ = _ from map_len, hdl]; exact Nat.le_refl _
    have := @pad_7 (L+1) (n+1) (r : Int) (d : Int) (N : Int) ts es xs vs (passD (r : Int) (d : Int) (N : Int) ts es xs vs) [] 0 N N st [] _ _ _ d1 n1 (dF a2) (dF a3) n4 n5 y1 (by rw [c1]; rfl) y2 (by rw [c2]; rfl) l1 hle
    rw [tkMap hdl.symm] at this
    exact this
end
end Go.Proofs.Ytnphdnokedhhkaa.Fw
namespace Go.Proofs.Ytnphdnokedhhkaa.Fw
open Go Go.RowKit
/-- what Pass hands out, as told: an empty row where it fails -/
def pasQ (e : Int) (l : List (Nat × Nat)) : AV := .tup [.own 1 ((if e = 0 then l else []).map celC) true, .int .i64 e]
theorem pas_wk (e : Int) (l : List (Nat × Nat)) : WkT (passA e l) (pasQ e l) := by
  unfold passA pasQ
  by_cases h : e = 0
  · rw [if_pos h, if_pos h, h]; exact WkT.refl _
  · rw [if_neg h, if_neg h]
    exact .inl ⟨_, _, rfl, rfl, ⟨.inr (.inr ⟨rfl, 1, true, rfl⟩), .inr (.inl rfl), trivial⟩⟩
def pasSem (doc : Bool) : List AV → Option AV
  | [.agg [.v (.int .i64 rate), .v (.int .i64 delay), .lst 1 e1, .lst 1 e2], .lst 1 e3, .lst 1 e4, .v (.int .i64 nn)] =>
    (unL unC e1).bind fun ts => (unL unC e2).bind fun es => (unL unC e3).bind fun xs => (unL unC e4).bind fun vs =>
      if shortL ts ∧ shortL es ∧ shortL xs ∧ shortL vs then some (pasQ (passE rate delay nn ts es xs vs) (if doc then passD rate delay nn ts es xs vs else passP rate delay nn ts es xs vs)) else none
  | _ => none
theorem pasSem_is {doc : Bool} {avs : List AV} {r : AV} (h : pasSem doc avs = some r) : ∃ rate delay nn ts es xs vs, avs = [.agg [.int .i64 rate, .int .i64 delay, .lst 1 (ts.map celC), .lst 1 (es.map celC)], .lst 1 (xs.map celC), .lst 1 (vs.map celC), .int .i64 nn] ∧
    shortL ts ∧ shortL es ∧ shortL xs ∧ shortL vs ∧ r = pasQ (passE rate delay nn ts es xs vs) (if doc then passD rate delay nn ts es xs vs else passP rate delay nn ts es xs vs) := by
  unfold pasSem at h
  split at h
  · rename_i rate delay e1 e2 e3 e4 nn
    rw [Option.bind_eq_some_iff] at h
    obtain ⟨ts, h1, h⟩ := h
    rw [Option.bind_eq_some_iff] at h
    obtain ⟨es, h2, h⟩ := h
    rw [Option.bind_eq_some_iff] at h
    obtain ⟨xs, h3, h⟩ := h
    rw [Option.bind_eq_some_iff] at h
    obtain ⟨vs, h4, h⟩ := h
    split at h
    · rename_i hm
      cases h
      have g1 := unL_inv (enc := celC) unC_is h1
      have g2 := unL_inv (enc := celC) unC_is h2
      have g3 := unL_inv (enc := celC) unC_is h3
      have g4 := unL_inv (enc := celC) unC_is h4
      subst g1; subst g2; subst g3; subst g4
      exact ⟨rate, delay, nn, ts, es, xs, vs, rfl, hm.1, hm.2.1, hm.2.2.1, hm.2.2.2, rfl⟩
    · cases h
  · cases h
theorem pasSem_at (doc : Bool) {rate delay nn : Int} {ts es xs vs : List (Nat × Nat)} (h1 : shortL ts) (h2 : shortL es) (h3 : shortL xs) (h4 : shortL vs) : pasSem doc [.agg [.int .i64 rate, .int .i64 delay, .lst 1 (ts.map celC), .lst 1 (es.map celC)], .lst 1 (xs.map celC), .lst 1 (vs.map celC), .int .i64 nn] =
    some (pasQ (passE rate delay nn ts es xs vs) (if doc then passD rate delay nn ts es xs vs else passP rate delay nn ts es xs vs)) := by
  simp only [pasSem, unC_L, Option.bind_some, if_pos (And.intro h1 (And.intro h2 (And.intro h3 h4)))]
end Go.Proofs.Ytnphdnokedhhkaa.Fw
namespace Go.Proofs.Ytnphdnokedhhkaa.Fw
open Go Go.RowKit

end Go.Proofs.Ytnphdnokedhhkaa.Fw
namespace Go.Proofs.Ytnphdnokedhhkaa.Fw
open Go Go.RowKit
theorem steps6_read : Ieee.double.read 4634204016564240384 = .number false (2 ^ 52) ((6 : Nat) - 52 : Int) := by decide
theorem whole_div6 {K : Int} (hK : K.natAbs < 2 ^ 53) {w : Nat} (hw : fin w) (hv : fv w = K * 2 ^ 1074) : fin (fdiv w 4634204016564240384) ∧ fv (fdiv w 4634204016564240384) = K * 2 ^ 1068 := by
  have e : fv w = (K * 2 ^ 1068) * 2 ^ 6 := by rw [hv, Int.mul_assoc, ← Int.pow_add]
  have hst : stout w := by
    unfold stout
    by_cases h0 : K = 0
    · left; rw [hv, h0, Int.zero_mul]
    · right
      rw [hv, Int.natAbs_mul, Int.natAbs_pow]
      calc 2 ^ 600 ≤ 1 * 2 ^ 1074 := by rw [Nat.one_mul]; exact Nat.pow_le_pow_right (by decide) (by decide)
        _ ≤ K.natAbs * 2 ^ 1074 := Nat.mul_le_mul_right _ (by omega)
  exact fdiv_pow2 hw hst steps6_read (by decide) e (fits_grid hK (by decide))
end Go.Proofs.Ytnphdnokedhhkaa.Fw
namespace Go.Proofs.Ytnphdnokedhhkaa.Fw
open Go Go.RowKit
def floW (y : Nat) : Nat := bif fgt (fofInt ((fv y).tdiv (2 ^ 1074))) y then fsub (fofInt ((fv y).tdiv (2 ^ 1074))) 4607182418800017408 else fofInt ((fv y).tdiv (2 ^ 1074))
theorem fits_stepI {k : Int} (h : k.natAbs < 2 ^ 53) : fits (k * 2 ^ 1074).natAbs := by
  rw [Int.natAbs_mul, Int.natAbs_pow]
  exact fits_whole (by omega)
def nearW (a : Nat) : Nat := fdiv (bif halfUp (fv (up12 a)) then fadd (floW (up12 a)) 4607182418800017408 else floW (up12 a)) 4661225614328463360
section
variable {L n a : Nat}
end
/-- a sample: the program's, and the document's -/
def smp (doc : Bool) (z : Nat × Nat) : (Nat × Nat) × Bool := if wi z.1 = true ∧ wi z.2 = true then ((if doc then nearW z.1 else nearF z.1, if doc then nearW z.2 else nearF z.2), false) else ((0, 0), true)
end Go.Proofs.Ytnphdnokedhhkaa.Fw
namespace Go.Proofs.Ytnphdnokedhhkaa.Fw
open Go Go.RowKit
end Go.Proofs.Ytnphdnokedhhkaa.Fw
namespace Go.Proofs.Ytnphdnokedhhkaa.Fw
open Go Go.RowKit

end Go.Proofs.Ytnphdnokedhhkaa.Fw
namespace Go.Proofs.Ytnphdnokedhhkaa.Fw
open Go Go.RowKit
section
variable {L n a b : Nat}
end
end Go.Proofs.Ytnphdnokedhhkaa.Fw
namespace Go.Proofs.Ytnphdnokedhhkaa.Fw
open Go Go.RowKit

end Go.Proofs.Ytnphdnokedhhkaa.Fw
namespace Go.Proofs.Ytnphdnokedhhkaa.Fw
open Go Go.RowKit
abbrev Bu := (Int × Int) × (Nat × Nat) × Bool
abbrev Smp := (Nat × Nat) × Bool
def bd : Bu := ((0, 0), (0, 0), false)
/-- what a burst leaves -/
def buS (doc : Bool) (b : Bu) : Smp := if b.2.2 = true then ((0, 0), true) else smp doc b.2.1
def hit (b : Bu) (m : Nat) : Prop := b.1.1 ≤ (m : Int) ∧ (m : Int) - b.1.1 < b.1.2
instance (b : Bu) (m : Nat) : Decidable (hit b m) := by unfold hit; exact inferInstance
/-- a sample, torn by the first bursts -/
def torn (doc : Bool) (bs : List Bu) (m : Nat) (s : Smp) : Nat → Smp
  | 0 => s
  | k + 1 => if hit (bs.getD k bd) m then buS doc (bs.getD k bd) else torn doc bs m s k
section
variable {L n : Nat} {nn : Int} {ds us : List (Nat × Nat)} {bs : List Bu} {lu : Nat}
end
end Go.Proofs.Ytnphdnokedhhkaa.Fw
namespace Go.Proofs.Ytnphdnokedhhkaa.Fw
open Go Go.RowKit
section
variable {L n : Nat} {nn : Int} {ds us : List (Nat × Nat)} {bs : List Bu} {lu : Nat}
end
end Go.Proofs.Ytnphdnokedhhkaa.Fw
namespace Go.Proofs.Ytnphdnokedhhkaa.Fw
open Go Go.RowKit
section
variable {L n : Nat} {rate delay nn : Int} {ts es xs vs ds : List (Nat × Nat)} {bs : List Bu}
end
end Go.Proofs.Ytnphdnokedhhkaa.Fw
namespace Go.Proofs.Ytnphdnokedhhkaa.Fw
open Go Go.RowKit
def nz1 : AV → AV
  | .nils => .lst 1 []
  | x => x
def nzA : AV → AV
  | .agg cs => .agg (cs.map nz1)
  | x => nz1 x
theorem wi_nz1 (x : AV) : Wi1 x (nz1 x) := by
  unfold nz1
  split
  · exact .inr ⟨rfl, 1, rfl⟩
  · exact .refl _
theorem all_nz1 : ∀ cs : List AV, All2 Wi1 cs (cs.map nz1)
  | [] => trivial
  | x :: r => ⟨wi_nz1 x, all_nz1 r⟩
theorem wi_nzA (x : AV) : WiA x (nzA x) := by
  unfold nzA
  split
  · exact .inl ⟨_, _, rfl, rfl, all_nz1 _⟩
  · exact .inr (wi_nz1 _)
theorem wi_nz : ∀ avs : List AV, All2 WiA avs (avs.map nzA)
  | [] => trivial
  | x :: r => ⟨wi_nzA x, wi_nz r⟩
def newV1 : FuncId → Option (List AV → Option AV)
  | 22 => some (fun avs => chkSem (avs.map nzA))
  | 23 => some (fun avs => chkSem (avs.map nzA))
  | _ => none
theorem spec_v1 : SpecOk Try.prog ⟨fnOf, fun f => match newV1 f with | some g => some g | none => specT f, 0⟩ :=
  spec_adds spec_t (fun L => fnsOk _ _) follows newV1 fun f g h => by
    unfold newV1 at h
    split at h
    · cases h
      refine ⟨⟨_, Try.func22, ne_of_beq_false (by kernel_rfl), by kernel_rfl⟩, fun avs r h => ?_⟩
      have hw := wi_nz avs
      obtain ⟨rate, delay, ts, es, he, m1, m2, rfl⟩ := chkSem_is h
      rw [he] at hw
      exact ⟨_, 0, 1, _, hw, (check_both m1 m2).1, WkT.refl _⟩
    · cases h
      refine ⟨⟨_, Try.func23, ne_of_beq_false (by kernel_rfl), by kernel_rfl⟩, fun avs r h => ?_⟩
      have hw := wi_nz avs
      obtain ⟨rate, delay, ts, es, he, m1, m2, rfl⟩ := chkSem_is h
      rw [he] at hw
      exact ⟨_, 0, 1, _, hw, (check_both m1 m2).2, WkT.refl _⟩
    · cases h
def newV2 : FuncId → Option (List AV → Option AV)
  | 44 => some (fun avs => rowSem (avs.map nzA))
  | _ => none
theorem spec_v2 : SpecOk Try.prog ⟨fnOf, fun f => match newV2 f with | some g => some g | none => specW f, 0⟩ :=
  spec_adds spec_w (fun L => fnsOk _ _) follows newV2 fun f g h => by
    unfold newV2 at h
    split at h
    · cases h
      refine ⟨⟨_, Try.func44, ne_of_beq_false (by kernel_rfl), by kernel_rfl⟩, fun avs r h => ?_⟩
      have hw := wi_nz avs
      obtain ⟨xs, he, hm, rfl⟩ := rowSem_is h
      rw [he] at hw
      exact ⟨_, xs.length + 1, 3, _, hw, plain_den (Nat.le_refl _) hm, WkT.refl _⟩
    · cases h
def newV : FuncId → Option (List AV → Option AV)
  | 22 => some (fun avs => chkSem (avs.map nzA))
  | 23 => some (fun avs => chkSem (avs.map nzA))
  | 44 => some (fun avs => rowSem (avs.map nzA))
  | _ => none
def specV : FuncId → Option (List AV → Option AV) := fun f => match newV f with | some g => some g | none => specX f
theorem spec_v : SpecOk Try.prog ⟨fnOf, specV, 0⟩ := by
  intro f g h
  have h : (match newV f with | some g => some g | none => specX f) = some g := h
  unfold newV at h
  split at h
  · rename_i g' hq
    split at hq
    · cases hq; cases h; exact spec_v1 22 _ rfl
    · cases hq; cases h; exact spec_v1 23 _ rfl
    · cases hq; cases h; exact spec_v2 44 _ rfl
    · cases hq
  · exact spec_x f g h
end Go.Proofs.Ytnphdnokedhhkaa.Fw
namespace Go.Proofs.Ytnphdnokedhhkaa.Fw
open Go Go.RowKit
end Go.Proofs.Ytnphdnokedhhkaa.Fw
namespace Go.Proofs.Ytnphdnokedhhkaa.Fw
open Go Go.RowKit
/-- a float in parts of 2^-6, and of 2^-12 -/
def sx (x : Nat) : Int := fv x / 2 ^ 1068
theorem six_sx {m : Int} {x : Nat} (h : six m x) : sx x = m := by
  unfold sx; rw [h.2]; exact Int.mul_ediv_cancel _ (pow_ne _)
abbrev CI := Int × Int
def addI (a b : CI) : CI := (a.1 + b.1, a.2 + b.2)
def timI (a b : CI) : CI := (a.1 * b.1 - a.2 * b.2, a.1 * b.2 + a.2 * b.1)
def sxC (z : Nat × Nat) : CI := (sx z.1, sx z.2)
/-- a number whose parts are so many parts of 2^-6, 2^-12 -/
def sixC (m : CI) (z : Nat × Nat) : Prop := six m.1 z.1 ∧ six m.2 z.2
def gridC (m : CI) (z : Nat × Nat) : Prop := grid m.1 z.1 ∧ grid m.2 z.2
theorem sixC_sx {m : CI} {z : Nat × Nat} (h : sixC m z) : sxC z = m := by
  obtain ⟨a, b⟩ := m
  unfold sxC; rw [six_sx h.1, six_sx h.2]
theorem okTap_six {z : Nat × Nat} (h : okTap z = true) : sixC (sxC z) z ∧ (sxC z).1.natAbs ≤ 64 ∧ (sxC z).2.natAbs ≤ 64 := by
  unfold okTap at h
  rw [Bool.and_eq_true] at h
  obtain ⟨a, ha, a2⟩ := plain_six h.1
  obtain ⟨b, hb, b2⟩ := plain_six h.2
  have e : sxC z = (a, b) := sixC_sx (m := (a, b)) ⟨ha, hb⟩
  rw [e]
  exact ⟨⟨ha, hb⟩, a2, b2⟩
theorem ptOK_six {z : Nat × Nat} (h : ptOK z = true) : sixC (sxC z) z ∧ (sxC z).1.natAbs ≤ 8192 ∧ (sxC z).2.natAbs ≤ 8192 := by
  unfold ptOK at h
  rw [Bool.and_eq_true] at h
  obtain ⟨a, a2, ha⟩ := plainF_six (.inr rfl) h.1
  obtain ⟨b, b2, hb⟩ := plainF_six (.inr rfl) h.2
  have e : sxC z = (a, b) := sixC_sx (m := (a, b)) ⟨ha, hb⟩
  rw [e]
  exact ⟨⟨ha, hb⟩, a2, b2⟩
theorem tim_gridC {t z : Nat × Nat} {a b : CI} (ht : sixC a t) (hz : sixC b z) (a1 : a.1.natAbs ≤ 64) (a2 : a.2.natAbs ≤ 64) (b1 : b.1.natAbs ≤ 8192) (b2 : b.2.natAbs ≤ 8192) : gridC (timI a b) (timP t z) ∧ (timI a b).1.natAbs ≤ 1048576 ∧ (timI a b).2.natAbs ≤ 1048576 := by
  have m : ∀ {x y : Int}, x.natAbs ≤ 64 → y.natAbs ≤ 8192 → (x * y).natAbs ≤ 524288 := fun {x y} h1 h2 => by rw [Int.natAbs_mul]; exact Nat.mul_le_mul h1 h2
  have p1 := m a1 b1
  have p2 := m a2 b2
  have p3 := m a1 b2
  have p4 := m a2 b1
  have g1 := six_mul ht.1 hz.1 (by omega)
  have g2 := six_mul ht.2 hz.2 (by omega)
  have g3 := six_mul ht.1 hz.2 (by omega)
  have g4 := six_mul ht.2 hz.1 (by omega)
  refine ⟨⟨grid_sub g1 g2 (by omega), grid_add g3 g4 (by omega)⟩, ?_, ?_⟩
  · show (a.1 * b.1 - a.2 * b.2).natAbs ≤ _; omega
  · show (a.1 * b.2 + a.2 * b.1).natAbs ≤ _; omega
/-- a row's number at a place, nought beyond -/
def xat (xs : List (Nat × Nat)) (i : Int) : CI := if 0 ≤ i ∧ i < xs.length then sxC (xs.getD i.toNat (0, 0)) else (0, 0)
def tat (ts : List (Nat × Nat)) (k : Nat) : CI := sxC (ts.getD k (0, 0))
/-- the sum over taps -/
def conv (h : Nat → CI) (x : Int → CI) (ap : Nat) (at' : Int) : Nat → CI
  | 0 => (0, 0)
  | k + 1 => addI (conv h x ap at' k) (timI (h k) (x (at' - (k * ap : Nat))))
theorem timI_zero (a : CI) : timI a (0, 0) = (0, 0) := by unfold timI; simp
theorem addI_zero (a : CI) : addI a (0, 0) = a := by unfold addI; simp
theorem conv_big {h : Nat → CI} {x : Int → CI} {ap : Nat} {at' : Int} {K : Nat} (hb : ∀ k, k < K → (h k).1.natAbs ≤ 64 ∧ (h k).2.natAbs ≤ 64) (xb : ∀ i, (x i).1.natAbs ≤ 8192 ∧ (x i).2.natAbs ≤ 8192) :
    ∀ k, k ≤ K → (conv h x ap at' k).1.natAbs ≤ k * 1048576 ∧ (conv h x ap at' k).2.natAbs ≤ k * 1048576
  | 0, _ => ⟨by simp [conv], by simp [conv]⟩
  | k + 1, hk => by
    obtain ⟨i1, i2⟩ := conv_big (ap := ap) (at' := at') hb xb k (by omega)
    obtain ⟨a1, a2⟩ := hb k (by omega)
    obtain ⟨b1, b2⟩ := xb (at' - (k * ap : Nat))
    have m : ∀ {x y : Int}, x.natAbs ≤ 64 → y.natAbs ≤ 8192 → (x * y).natAbs ≤ 524288 := fun {x y} h1 h2 => by rw [Int.natAbs_mul]; exact Nat.mul_le_mul h1 h2
    have p1 := m a1 b1
    have p2 := m a2 b2
    have p3 := m a1 b2
    have p4 := m a2 b1
    show ((conv h x ap at' k).1 + ((h k).1 * (x (at' - (k * ap : Nat))).1 - (h k).2 * (x (at' - (k * ap : Nat))).2)).natAbs ≤ _ ∧ ((conv h x ap at' k).2 + ((h k).1 * (x (at' - (k * ap : Nat))).2 + (h k).2 * (x (at' - (k * ap : Nat))).1)).natAbs ≤ _
    omega
/-- bounded by the taps' sum -/
def absI (a : CI) : Nat := a.1.natAbs + a.2.natAbs
def sumA (h : Nat → CI) : Nat → Nat
  | 0 => 0
  | k + 1 => sumA h k + absI (h k)
theorem conv_le {h : Nat → CI} {x : Int → CI} {ap : Nat} {at' : Int} {M : Nat} (xb : ∀ i, (x i).1.natAbs ≤ M ∧ (x i).2.natAbs ≤ M) :
    ∀ k, (conv h x ap at' k).1.natAbs ≤ sumA h k * M ∧ (conv h x ap at' k).2.natAbs ≤ sumA h k * M
  | 0 => ⟨by simp [conv], by simp [conv]⟩
  | k + 1 => by
    obtain ⟨i1, i2⟩ := conv_le (h := h) (ap := ap) (at' := at') xb k
    obtain ⟨b1, b2⟩ := xb (at' - (k * ap : Nat))
    have m : ∀ {x y : Int}, y.natAbs ≤ M → (x * y).natAbs ≤ x.natAbs * M := fun {x y} h2 => by rw [Int.natAbs_mul]; exact Nat.mul_le_mul_left _ h2
    have p1 := m (x := (h k).1) b1
    have p2 := m (x := (h k).2) b2
    have p3 := m (x := (h k).1) b2
    have p4 := m (x := (h k).2) b1
    have e : sumA h (k + 1) * M = sumA h k * M + (h k).1.natAbs * M + (h k).2.natAbs * M := by
      show (sumA h k + ((h k).1.natAbs + (h k).2.natAbs)) * M = _
      rw [Nat.add_mul, Nat.add_mul, Nat.add_assoc]
    rw [e]
    show ((conv h x ap at' k).1 + ((h k).1 * (x (at' - (k * ap : Nat))).1 - (h k).2 * (x (at' - (k * ap : Nat))).2)).natAbs ≤ _ ∧ ((conv h x ap at' k).2 + ((h k).1 * (x (at' - (k * ap : Nat))).2 + (h k).2 * (x (at' - (k * ap : Nat))).1)).natAbs ≤ _
    omega
theorem xat_le {xs : List (Nat × Nat)} (h2 : rowF xs = true) (i : Int) : (xat xs i).1.natAbs ≤ 8192 ∧ (xat xs i).2.natAbs ≤ 8192 := by
  unfold xat
  split
  · rename_i c
    exact (ptOK_six (rowF_is.1 h2 i.toNat (by omega))).2
  · exact ⟨by decide, by decide⟩
/-- THE SUM OF A FILTER, as whole numbers -/
theorem acc_val {hs xs : List (Nat × Nat)} {ap : Nat} {at' : Int} (hh : hs.length ≤ 64) (h1 : ∀ i, i < hs.length → okTap (hs.getD i (0, 0)) = true) (h2 : rowF xs = true) {o : Nat × Nat} {p : CI} (hp : gridC p o) (p1 : p.1.natAbs ≤ 1099511627776) (q1 : p.2.natAbs ≤ 1099511627776) :
    ∀ k, k ≤ hs.length → gridC (addI p (conv (tat hs) (xat xs) ap at' k)) (accL hs xs ap at' o k)
  | 0, _ => by
    show gridC (addI p (0, 0)) o
    rw [addI_zero]; exact hp
  | k + 1, hk => by
    have ih := acc_val (ap := ap) (at' := at') hh h1 h2 hp p1 q1 k (by omega)
    have hb : ∀ j, j < hs.length → (tat hs j).1.natAbs ≤ 64 ∧ (tat hs j).2.natAbs ≤ 64 := fun j hj => (okTap_six (h1 j hj)).2
    obtain ⟨i1, i2⟩ := conv_big (ap := ap) (at' := at') hb (fun i => xat_le h2 i) k (by omega)
    by_cases c : 0 ≤ at' - (k * ap : Nat) ∧ at' - (k * ap : Nat) < xs.length
    · have e : accL hs xs ap at' o (k + 1) = addP (accL hs xs ap at' o k) (timP (hs.getD k (0, 0)) (xs.getD (at' - (k * ap : Nat)).toNat (0, 0))) := if_pos c
      have ex : xat xs (at' - (k * ap : Nat)) = sxC (xs.getD (at' - (k * ap : Nat)).toNat (0, 0)) := if_pos c
      obtain ⟨t1, t2, t3⟩ := okTap_six (h1 k (by omega))
      obtain ⟨z1, z2, z3⟩ := ptOK_six (rowF_is.1 h2 (at' - (k * ap : Nat)).toNat (by omega))
      obtain ⟨⟨g1, g2⟩, g3, g4⟩ := tim_gridC t1 z1 t2 t3 z2 z3
      rw [e]
      have ec : conv (tat hs) (xat xs) ap at' (k + 1) = addI (conv (tat hs) (xat xs) ap at' k) (timI (tat hs k) (xat xs (at' - (k * ap : Nat)))) := rfl
      rw [ec, ex]
      generalize conv (tat hs) (xat xs) ap at' k = u at *
      have et : tat hs k = sxC (hs.getD k (0, 0)) := rfl
      rw [et]
      generalize timI (sxC (hs.getD k (0, 0))) (sxC (xs.getD (at' - (k * ap : Nat)).toNat (0, 0))) = v at *
      obtain ⟨e1, e2⟩ := ih
      have n1 : ((p.1 + u.1) + v.1).natAbs < 2 ^ 53 := by omega
      have n2 : ((p.2 + u.2) + v.2).natAbs < 2 ^ 53 := by omega
      refine ⟨?_, ?_⟩
      · show grid (p.1 + (u.1 + v.1)) _
        rw [← Int.add_assoc]
        exact grid_add e1 g1 n1
      · show grid (p.2 + (u.2 + v.2)) _
        rw [← Int.add_assoc]
        exact grid_add e2 g2 n2
    · have e : accL hs xs ap at' o (k + 1) = accL hs xs ap at' o k := if_neg c
      have ex : xat xs (at' - (k * ap : Nat)) = (0, 0) := if_neg c
      have ec : conv (tat hs) (xat xs) ap at' (k + 1) = addI (conv (tat hs) (xat xs) ap at' k) (timI (tat hs k) (xat xs (at' - (k * ap : Nat)))) := rfl
      rw [e, ec, ex, timI_zero, addI_zero]
      exact ih
/-- what comes through at one place -/
def outI (ts xs es vs : List (Nat × Nat)) (rate : Nat) (m : Int) (delay : Nat) : CI := addI (conv (tat ts) (xat xs) rate (m - delay) ts.length) (conv (tat es) (xat vs) 1 m es.length)
theorem gridC_zero : gridC (0, 0) (0, 0) := ⟨grid_zero0, grid_zero0⟩
theorem zero_addI (a : CI) : addI (0, 0) a = a := by unfold addI; simp
theorem chk_parts {rate delay : Int} {ts es : List (Nat × Nat)} (h : chkT rate delay ts es = 0) : (1 ≤ rate ∧ rate ≤ 8 ∧ 0 ≤ delay ∧ delay ≤ 65536) ∧ (0 < ts.length ∧ ts.length ≤ 64 ∧ ∀ i, i < ts.length → okTap (ts.getD i (0, 0)) = true) ∧ (es.length ≤ 64 ∧ ∀ i, i < es.length → okTap (es.getD i (0, 0)) = true) := by
  obtain ⟨r1, r2, q1, q2, t1, t2⟩ := chkT_ok h
  obtain ⟨u1, u2, u3, _⟩ := tapsF_is.1 t1
  refine ⟨⟨r1, r2, q1, q2⟩, ⟨u1, u2, u3⟩, ?_⟩
  rcases t2 with h | h
  · exact ⟨by omega, fun i hi => by omega⟩
  · exact ⟨(tapsF_is.1 h).2.1, (tapsF_is.1 h).2.2.1⟩
theorem out_val {rate delay : Int} {ts xs es vs : List (Nat × Nat)} (h : chkT rate delay ts es = 0) (h3 : rowF xs = true) (h4 : rowF vs = true) (m : Int) :
    gridC (outI ts xs es vs rate.toNat m delay.toNat) (outP' ts xs es vs rate.toNat m delay.toNat) := by
  obtain ⟨_, ⟨_, t2, t3⟩, e1, e2⟩ := chk_parts h
  have x := acc_val (ap := rate.toNat) (at' := m - delay.toNat) t2 t3 h3 gridC_zero (by decide) (by decide) ts.length (Nat.le_refl _)
  rw [zero_addI] at x
  have hb : ∀ j, j < ts.length → (tat ts j).1.natAbs ≤ 64 ∧ (tat ts j).2.natAbs ≤ 64 := fun j hj => (okTap_six (t3 j hj)).2
  obtain ⟨i1, i2⟩ := conv_big (ap := rate.toNat) (at' := m - delay.toNat) hb (fun i => xat_le h3 i) ts.length (Nat.le_refl _)
  have b1 : ts.length * 1048576 ≤ 64 * 1048576 := Nat.mul_le_mul_right _ t2
  exact acc_val (ap := 1) (at' := m) e1 e2 h4 x (by omega) (by omega) es.length (Nat.le_refl _)
end Go.Proofs.Ytnphdnokedhhkaa.Fw
namespace Go.Proofs.Ytnphdnokedhhkaa.Fw
open Go Go.RowKit
theorem sP_val {zs : List (Nat × Nat)} : ∀ i, i ≤ 64 → (∀ j, j < i → okTap (zs.getD j (0, 0)) = true) → six (sumA (tat zs) i : Int) (sP zs i) ∧ sumA (tat zs) i ≤ 128 * i
  | 0, _, _ => ⟨six_zero, Nat.zero_le _⟩
  | i + 1, hi, h => by
    obtain ⟨s1, s2⟩ := sP_val i (by omega) fun j hj => h j (by omega)
    obtain ⟨hz, h1, h2⟩ := okTap_six (h i (by omega))
    obtain ⟨a1, _⟩ := six_abs hz.1
    obtain ⟨b1, _⟩ := six_abs hz.2
    have e : sumA (tat zs) (i + 1) = sumA (tat zs) i + ((sxC (zs.getD i (0, 0))).1.natAbs + (sxC (zs.getD i (0, 0))).2.natAbs) := rfl
    rw [e]
    generalize sxC (zs.getD i (0, 0)) = v at *
    refine ⟨?_, by omega⟩
    have := six_add s1 (six_add a1 b1 (by omega)) (by omega)
    rwa [← Int.natCast_add, ← Int.natCast_add] at this
theorem four_val : fv 4616189618054758400 = 256 * 2 ^ 1068 := by
  have h := fofInt_exact (n := 4) (by decide)
  have e : fofInt 4 = 4616189618054758400 := by kernel_rfl
  rw [e] at h
  rw [h.2, show (256 : Int) = 4 * 2 ^ 6 from rfl, Int.mul_assoc, ← Int.pow_add]
theorem six_le4 {m : Int} {x : Nat} (h : six m x) : fle x 4616189618054758400 = decide (m ≤ 256) := by
  rw [fle_fin h.1 fin4, h.2, four_val]
  have hp : (0 : Int) < 2 ^ 1068 := Int.pow_pos (by decide)
  exact decide_eq_decide.2 ⟨fun h => Int.le_of_mul_le_mul_right h hp, fun h => Int.mul_le_mul_of_nonneg_right h (Int.le_of_lt hp)⟩
theorem tap_sum {zs : List (Nat × Nat)} (h : tapsF zs = true) : sumA (tat zs) zs.length ≤ 256 := by
  obtain ⟨h1, h2, h3, h4⟩ := tapsF_is.1 h
  obtain ⟨s1, s2⟩ := sP_val zs.length h2 (fun j hj => h3 j hj)
  rw [six_le4 s1, decide_eq_true_eq] at h4
  omega
/-- taps, by their whole numbers -/
theorem okTap_of {z : Nat × Nat} {m : CI} (h : sixC m z) (h1 : m.1.natAbs ≤ 64) (h2 : m.2.natAbs ≤ 64) : okTap z = true := by
  unfold okTap
  rw [Bool.and_eq_true]
  have key : ∀ {k : Int} {x : Nat}, six k x → k.natAbs ≤ 64 → plainF x one = true := fun {k x} h hk => by
    have hle : fle (absF x) 4607182418800017408 = true := by
      rw [fle_rk, (absF_rk x).1, (absF_rk x).2, fin_num h.1, rk_fin h.1, h.2]
      have r1 : rk 4607182418800017408 = 2 ^ 1074 := rk_one
      have r2 : isNaN 4607182418800017408 = false := by decide
      rw [r1, r2]
      simp only [Bool.not_false, Bool.true_and]
      refine decide_eq_true ?_
      rw [Int.natAbs_mul, Int.natAbs_pow]
      have p : (2 : Int) ^ 1074 = ((64 * 2 ^ 1068 : Nat) : Int) := by
        rw [Int.natCast_mul, Int.natCast_pow, show ((64 : Nat) : Int) = 2 ^ 6 from rfl]
        show _ = (2 : Int) ^ 6 * 2 ^ 1068
        rw [← Int.pow_add]
      rw [p]
      exact Int.ofNat_le.2 (Nat.mul_le_mul_right _ hk)
    obtain ⟨g1, g2, _⟩ := mul64 okM_one hle
    obtain ⟨z1, z2⟩ := fint_zero g1
    unfold plainF
    rw [show fle (absF x) one = true from hle, Bool.true_and, feq_fin z1 g1, z2, g2, h.2]
    refine decide_eq_true ?_
    have p : (k * 2 ^ 1068 * 2 ^ 6 : Int) = k * 2 ^ 1074 := by rw [Int.mul_assoc, ← Int.pow_add]
    rw [p, Int.mul_tdiv_cancel _ (pow_ne _)]
  exact ⟨key h.1 h1, key h.2 h2⟩
theorem ptOK_of {z : Nat × Nat} {m : CI} (h : sixC m z) (h1 : m.1.natAbs ≤ 8192) (h2 : m.2.natAbs ≤ 8192) : ptOK z = true := by
  unfold ptOK
  rw [Bool.and_eq_true]
  have key : ∀ {k : Int} {x : Nat}, six k x → k.natAbs ≤ 8192 → plainF x 4638707616191610880 = true := fun {k x} h hk => by
    have hle : fle (absF x) 4638707616191610880 = true := by
      rw [fle_rk, (absF_rk x).1, (absF_rk x).2, fin_num h.1, rk_fin h.1, h.2]
      have r1 : rk 4638707616191610880 = 2 ^ 1081 := of_decide_eq_true (by kernel_rfl)
      have r2 : isNaN 4638707616191610880 = false := by decide
      rw [r1, r2]
      simp only [Bool.not_false, Bool.true_and]
      refine decide_eq_true ?_
      rw [Int.natAbs_mul, Int.natAbs_pow]
      have p : (2 : Int) ^ 1081 = ((8192 * 2 ^ 1068 : Nat) : Int) := by
        rw [Int.natCast_mul, Int.natCast_pow, show ((8192 : Nat) : Int) = 2 ^ 13 from rfl]
        show _ = (2 : Int) ^ 13 * 2 ^ 1068
        rw [← Int.pow_add]
      rw [p]
      exact Int.ofNat_le.2 (Nat.mul_le_mul_right _ hk)
    obtain ⟨g1, g2, _⟩ := mul64 (.inr rfl) hle
    obtain ⟨z1, z2⟩ := fint_zero g1
    unfold plainF
    rw [hle, Bool.true_and, feq_fin z1 g1, z2, g2, h.2]
    refine decide_eq_true ?_
    have p : (k * 2 ^ 1068 * 2 ^ 6 : Int) = k * 2 ^ 1074 := by rw [Int.mul_assoc, ← Int.pow_add]
    rw [p, Int.mul_tdiv_cancel _ (pow_ne _)]
  exact ⟨key h.1 h1, key h.2 h2⟩
theorem tapsF_of {zs : List (Nat × Nat)} (h1 : 0 < zs.length) (h2 : zs.length ≤ 64) (h3 : ∀ i, i < zs.length → okTap (zs.getD i (0, 0)) = true) (h4 : sumA (tat zs) zs.length ≤ 256) : tapsF zs = true := by
  refine tapsF_is.2 ⟨h1, h2, h3, ?_⟩
  obtain ⟨s1, _⟩ := sP_val zs.length h2 (fun j hj => h3 j hj)
  rw [six_le4 s1]
  exact decide_eq_true (by omega)
theorem rowF_of {xs : List (Nat × Nat)} (h : ∀ i, i < xs.length → ∃ m : CI, sixC m (xs.getD i (0, 0)) ∧ m.1.natAbs ≤ 8192 ∧ m.2.natAbs ≤ 8192) : rowF xs = true :=
  rowF_is.2 fun i hi => by
    obtain ⟨m, h1, h2, h3⟩ := h i hi
    exact ptOK_of h1 h2 h3
/-- a quotient by 64 -/
theorem div64 {a : Int} (h : a.natAbs < 2 ^ 53) : six a (fdiv (fofInt a) 4634204016564240384) := by
  obtain ⟨f1, f2⟩ := fofInt_exact h
  exact whole_div6 h f1 f2
/-- through: the bound by the taps' sums -/
theorem out_le {rate delay : Int} {ts xs es vs : List (Nat × Nat)} (h : chkT rate delay ts es = 0) {M : Nat} (h3 : ∀ i, (xat xs i).1.natAbs ≤ M ∧ (xat xs i).2.natAbs ≤ M) (h4 : ∀ i, (xat vs i).1.natAbs ≤ M ∧ (xat vs i).2.natAbs ≤ M) (m : Int) (rt dl : Nat) :
    (outI ts xs es vs rt m dl).1.natAbs ≤ 512 * M ∧ (outI ts xs es vs rt m dl).2.natAbs ≤ 512 * M := by
  obtain ⟨_, _, _, _, t1, t2⟩ := chkT_ok h
  have s1 := tap_sum t1
  have s2 : sumA (tat es) es.length ≤ 256 := by
    rcases t2 with h | h
    · rw [h]; exact Nat.zero_le _
    · exact tap_sum h
  obtain ⟨a1, a2⟩ := conv_le (h := tat ts) (x := xat xs) (ap := rt) (at' := m - dl) h3 ts.length
  obtain ⟨b1, b2⟩ := conv_le (h := tat es) (x := xat vs) (ap := 1) (at' := m) h4 es.length
  have c1 := Nat.mul_le_mul_right M s1
  have c2 := Nat.mul_le_mul_right M s2
  unfold outI addI
  refine ⟨?_, ?_⟩
  · show (_ + _ : Int).natAbs ≤ _; omega
  · show (_ + _ : Int).natAbs ≤ _; omega
end Go.Proofs.Ytnphdnokedhhkaa.Fw
namespace Go.Proofs.Ytnphdnokedhhkaa.Fw
open Go Go.RowKit
/-- turned by one quarter -/
def rot1 (z : Nat × Nat) : Nat × Nat := (fneg z.2, z.1)
def rotK : Nat → Nat × Nat → Nat × Nat
  | 0, z => z
  | k + 1, z => rot1 (rotK k z)
theorem six_neg {m : Int} {x : Nat} (h : six m x) : six (-m) (fneg x) := by
  obtain ⟨h1, h2⟩ := fneg_fin h.1
  exact ⟨h1, by rw [h2, h.2, Int.neg_mul]⟩
theorem absF_neg (x : Nat) : fle (absF (fneg x)) one = fle (absF x) one := by
  obtain ⟨h1, h2⟩ := fneg_rk x
  rw [fle_rk, fle_rk, (absF_rk _).1, (absF_rk _).2, (absF_rk _).1, (absF_rk _).2, h1, h2, Int.natAbs_neg]
theorem plainF_neg (x : Nat) : plainF (fneg x) one = plainF x one := by
  cases h : fle (absF x) one with
  | false => unfold plainF; rw [absF_neg, h]; rfl
  | true =>
    have h' : fle (absF (fneg x)) one = true := by rw [absF_neg]; exact h
    obtain ⟨f1, f2, _⟩ := mul64 okM_one h
    obtain ⟨g1, g2, _⟩ := mul64 okM_one h'
    obtain ⟨z1, z2⟩ := fint_zero f1
    obtain ⟨y1, y2⟩ := fint_zero g1
    obtain ⟨n1, n2⟩ := fneg_fin (plain_fin okM_one h).1
    unfold plainF
    rw [h, h', feq_fin z1 f1, feq_fin y1 g1, z2, y2, g2, f2, n2, Int.neg_mul, Int.neg_tdiv, Int.neg_mul]
    simp only [Bool.true_and]
    exact decide_eq_decide.2 ⟨fun h => by omega, fun h => by omega⟩
theorem okTap_rot (z : Nat × Nat) : okTap (rot1 z) = okTap z := by
  unfold okTap rot1
  simp only
  rw [plainF_neg, Bool.and_comm]
theorem getD_map {f : Nat × Nat → Nat × Nat} {zs : List (Nat × Nat)} {i : Nat} (h : i < zs.length) : (zs.map f).getD i (0, 0) = f (zs.getD i (0, 0)) := by
  rw [List.getD_eq_getElem?_getD, List.getElem?_map, List.getElem?_eq_getElem h, List.getD_eq_getElem?_getD, List.getElem?_eq_getElem h]; rfl
theorem sums_rot {zs : List (Nat × Nat)} (hl : zs.length ≤ 64) : ∀ i, i ≤ zs.length → (∀ j, j < i → okTap (zs.getD j (0, 0)) = true) → ∃ S : Int, 0 ≤ S ∧ S ≤ 128 * i ∧ six S (sP zs i) ∧ six S (sP (zs.map rot1) i)
  | 0, _, _ => ⟨0, by omega, by omega, six_zero, six_zero⟩
  | i + 1, hi, h => by
    obtain ⟨S, s1, s2, s3, s4⟩ := sums_rot hl i (by omega) fun j hj => h j (by omega)
    have hk := h i (by omega)
    unfold okTap at hk
    simp only [Bool.and_eq_true] at hk
    obtain ⟨m, hm, hb⟩ := plain_six hk.1
    obtain ⟨k, hk, hc⟩ := plain_six hk.2
    obtain ⟨a1, _⟩ := six_abs hm
    obtain ⟨b1, _⟩ := six_abs hk
    obtain ⟨c1, _⟩ := six_abs (six_neg hk)
    refine ⟨S + (m.natAbs + k.natAbs), by omega, by omega, six_add s3 (six_add a1 b1 (by omega)) (by omega), ?_⟩
    show six _ (fadd _ (fadd (absF ((zs.map rot1).getD i (0, 0)).1) (absF ((zs.map rot1).getD i (0, 0)).2)))
    rw [getD_map (by omega)]
    have e : S + ((m.natAbs : Int) + (k.natAbs : Int)) = S + (((-k).natAbs : Int) + (m.natAbs : Int)) := by omega
    rw [e]
    exact six_add s4 (six_add c1 a1 (by omega)) (by omega)
theorem taps_rot {zs : List (Nat × Nat)} (h : tapsF zs = true) : tapsF (zs.map rot1) = true := by
  obtain ⟨h1, h2, h3, h4⟩ := tapsF_is.1 h
  have hl : (zs.map rot1).length = zs.length := List.length_map ..
  obtain ⟨S, _, _, s1, s2⟩ := sums_rot h2 zs.length (Nat.le_refl _) h3
  refine tapsF_is.2 ⟨by rw [hl]; exact h1, by rw [hl]; exact h2, fun i hi => ?_, ?_⟩
  · rw [hl] at hi
    rw [getD_map hi, okTap_rot]; exact h3 i hi
  · rw [hl, six_fle s2 s1 fin4]; exact h4
theorem taps_rotK {zs : List (Nat × Nat)} (h : tapsF zs = true) : ∀ k, tapsF (zs.map (rotK k)) = true
  | 0 => by
    have : zs.map (rotK 0) = zs := by
      have e : rotK 0 = id := funext fun z => rfl
      rw [e, List.map_id]
    rw [this]; exact h
  | k + 1 => by
    have := taps_rot (taps_rotK h k)
    rw [List.map_map] at this
    exact this
end Go.Proofs.Ytnphdnokedhhkaa.Fw
namespace Go.Proofs.Ytnphdnokedhhkaa.Fw
open Go Go.RowKit
theorem hnLwRoB {P : Prog} {C : Caller} : Holds P C [] := trivial
theorem hcLwRoB {P : Prog} {C : Caller} {c : Con} {cs : List Con} (h : c.holds P C) (t : Holds P C cs) : Holds P C (c :: cs) := ⟨h, t⟩
theorem hbLwRoB {P : Prog} {C : Caller} {x y : Bool} {cs : List Con} (h : x = y) (t : Holds P C cs) : Holds P C (.b x y :: cs) := ⟨h, t⟩

def roSt (a b : Nat) (m : Int) (i : Nat) : St := ⟨[(0, .cpx a b), (6, .int .i64 m), (7, .int .i64 i)], [], 0⟩
def ruSt (a b : Nat) (m : Int) (i : Nat) : St := ⟨[(0, .cpx a b), (1, .int .i64 m), (5, .int .i64 i)], [], 0⟩
theorem ror_0 {L n : Nat} {a b c d i : Nat} {m k : Int} {π : List Nat} (h0 : (decide ((↑i : Int) < m)) = true) : seeZ 0 [0, 6, 7] m46.res (bodyOf ⟨fnOf, specK, L⟩ (runF ⟨fnOf, specK, L⟩ n) 0 m46b0 (i :: π) (roSt a b m i : St)) = some (RO.go .nrm (.mk [(0, (.cpx (fneg b) (a))), (6, (.v (.int .i64 (m)))), (7, (.v (.int .i64 (IntKind.wrap .i64 ((↑i : Int) + 1)))))] [] 0)) :=
  rndZ_sound (q := [((some 8), (Dec.b true))]) (by kernel_rfl) (hbLwRoB h0 hnLwRoB)
theorem ror_1 {L n : Nat} {a b c d i : Nat} {m k : Int} {π : List Nat} (h0 : (decide ((↑i : Int) < m)) = false) : seeZ 0 [0, 6, 7] m46.res (bodyOf ⟨fnOf, specK, L⟩ (runF ⟨fnOf, specK, L⟩ n) 0 m46b0 (i :: π) (roSt a b m i : St)) = some (RO.go (.exit 0) (.mk [(0, (.cpx (a) (b))), (6, (.v (.int .i64 (m)))), (7, (.v (.int .i64 ((↑i : Int)))))] [] 0)) :=
  rndZ_sound (q := [((some 8), (Dec.b false))]) (by kernel_rfl) (hbLwRoB h0 hnLwRoB)
theorem ro_0 {L n : Nat} {a b c d i : Nat} {m k : Int} {π : List Nat} (h0 : Con.holds ⟨fnOf, specK, L⟩ (runF ⟨fnOf, specK, L⟩ n) (.loop 0 [0, 6, 7] m46b0 [4] (.mk [(0, (.cpx (a) (b))), (6, (.v (.int .i64 (IntKind.wrap .i64 (↑(BitVec.ofInt 64 k &&& BitVec.ofInt 64 (3)).toNat : Int))))), (7, (.v (.int .i64 0)))] [] 0) (.exit 0) (.mk [(0, (.cpx (c) (d))), (6, (.v (.int .i64 (iand .i64 k (3))))), (7, (.v (.int .i64 ((↑i : Int)))))] [] 0))) : den ⟨fnOf, specK, L⟩ (n+1) 46 [.cpx a b, .int .i64 k] = some (.cpx (c) (d)) :=
  denD_sound (q := [((some 200000), (Dec.loop (.exit 0) (.mk [(0, (.cpx (c) (d))), (6, (.v (.int .i64 (iand .i64 k (3))))), (7, (.v (.int .i64 ((↑i : Int)))))] [] 0)))]) (by kernel_rfl) (hcLwRoB h0 hnLwRoB)
theorem rur_0 {L n : Nat} {a b c d i : Nat} {m k : Int} {π : List Nat} (h0 : (decide ((↑i : Int) < m)) = true) : seeZ 0 [0, 1, 5] m47.res (bodyOf ⟨fnOf, specK, L⟩ (runF ⟨fnOf, specK, L⟩ n) 0 m47b0 (i :: π) (ruSt a b m i : St)) = some (RO.go .nrm (.mk [(0, (.cpx (fneg b) (a))), (1, (.v (.int .i64 (m)))), (5, (.v (.int .i64 (IntKind.wrap .i64 ((↑i : Int) + 1)))))] [] 0)) :=
  rndZ_sound (q := [((some 14), (Dec.b true))]) (by kernel_rfl) (hbLwRoB h0 hnLwRoB)
theorem rur_1 {L n : Nat} {a b c d i : Nat} {m k : Int} {π : List Nat} (h0 : (decide ((↑i : Int) < m)) = false) : seeZ 0 [0, 1, 5] m47.res (bodyOf ⟨fnOf, specK, L⟩ (runF ⟨fnOf, specK, L⟩ n) 0 m47b0 (i :: π) (ruSt a b m i : St)) = some (RO.go (.exit 0) (.mk [(0, (.cpx (a) (b))), (1, (.v (.int .i64 (m)))), (5, (.v (.int .i64 ((↑i : Int)))))] [] 0)) :=
  rndZ_sound (q := [((some 14), (Dec.b false))]) (by kernel_rfl) (hbLwRoB h0 hnLwRoB)
theorem ru_0 {L n : Nat} {a b c d i : Nat} {m k : Int} {π : List Nat} (h0 : (decide (k.tmod (4) < 0)) = true) (h1 : Con.holds ⟨fnOf, specK, L⟩ (runF ⟨fnOf, specK, L⟩ n) (.loop 0 [0, 1, 5] m47b0 [10] (.mk [(0, (.cpx (a) (b))), (1, (.v (.int .i64 (IntKind.wrap .i64 (k.tmod (4) + 4))))), (5, (.v (.int .i64 0)))] [] 0) (.exit 0) (.mk [(0, (.cpx (c) (d))), (1, (.v (.int .i64 (m)))), (5, (.v (.int .i64 ((↑i : Int)))))] [] 0))) : den ⟨fnOf, specK, L⟩ (n+1) 47 [.cpx a b, .int .i64 k] = some (.cpx (c) (d)) :=
  denD_sound (q := [((some 9), (Dec.b true)), ((some 200000), (Dec.loop (.exit 0) (.mk [(0, (.cpx (c) (d))), (1, (.v (.int .i64 (m)))), (5, (.v (.int .i64 ((↑i : Int)))))] [] 0)))]) (by kernel_rfl) (hbLwRoB h0 (hcLwRoB h1 hnLwRoB))
theorem ru_1 {L n : Nat} {a b c d i : Nat} {m k : Int} {π : List Nat} (h0 : (decide (k.tmod (4) < 0)) = false) (h1 : Con.holds ⟨fnOf, specK, L⟩ (runF ⟨fnOf, specK, L⟩ n) (.loop 0 [0, 1, 5] m47b0 [7] (.mk [(0, (.cpx (a) (b))), (1, (.v (.int .i64 (k.tmod (4))))), (5, (.v (.int .i64 0)))] [] 0) (.exit 0) (.mk [(0, (.cpx (c) (d))), (1, (.v (.int .i64 (m)))), (5, (.v (.int .i64 ((↑i : Int)))))] [] 0))) : den ⟨fnOf, specK, L⟩ (n+1) 47 [.cpx a b, .int .i64 k] = some (.cpx (c) (d)) :=
  denD_sound (q := [((some 9), (Dec.b false)), ((some 200000), (Dec.loop (.exit 0) (.mk [(0, (.cpx (c) (d))), (1, (.v (.int .i64 (m)))), (5, (.v (.int .i64 ((↑i : Int)))))] [] 0)))]) (by kernel_rfl) (hbLwRoB h0 (hcLwRoB h1 hnLwRoB))
end Go.Proofs.Ytnphdnokedhhkaa.Fw
namespace Go.Proofs.Ytnphdnokedhhkaa.Fw
open Go Go.RowKit
def quarters (k : Int) : Nat := (k % 4).toNat
theorem quarters_le (k : Int) : quarters k ≤ 3 := by unfold quarters; omega
theorem and3 (k : Int) : IntKind.wrap .i64 ((BitVec.ofInt 64 k &&& BitVec.ofInt 64 3).toNat : Int) = (quarters k : Int) := by
  have e2 : BitVec.ofInt 64 3 = BitVec.ofNat 64 (2 ^ 2 - 1) := by decide
  rw [e2, BitVec.toNat_and, BitVec.toNat_ofNat, BitVec.toNat_ofInt, show (2 ^ 2 - 1) % 2 ^ 64 = 2 ^ 2 - 1 by decide, Nat.and_two_pow_sub_one_eq_mod]
  have e : ((2 ^ 64 : Nat) : Int) = 18446744073709551616 := by decide
  rw [e, wrap_id (by omega)]
  unfold quarters
  omega
section
variable {L n a b : Nat} {k : Int}
theorem rot_prog (hL : 3 ≤ L) : den ⟨fnOf, specK, L+1⟩ (n+1) 46 [.cpx a b, .int .i64 k] = some (.cpx (rotK (quarters k) (a, b)).1 (rotK (quarters k) (a, b)).2) := by
  have hq := quarters_le k
  refine @ro_0 (L+1) n a b _ _ (quarters k) 0 k [] ?_
  have e := and3 k
  have e2 : iand .i64 k 3 = (quarters k : Int) := e
  rw [e, e2]
  refine loopX (res := m46.res) (fun i => roSt (rotK i (a, b)).1 (rotK i (a, b)).2 (quarters k : Int) i) (quarters k) rfl (by omega) (fun i hi => ?_) ?_ (by simp)
  · have := @ror_0 (L+1) n (rotK i (a, b)).1 (rotK i (a, b)).2 0 0 i (quarters k : Int) 0 [4] (dLt hi)
    rw [wrap_id (n := (i : Int) + 1) (by omega)] at this
    exact this
  · exact @ror_1 (L+1) n _ _ 0 0 (quarters k) (quarters k : Int) 0 [4] dNlt
theorem rot_doc (hL : 3 ≤ L) : den ⟨fnOf, specK, L+1⟩ (n+1) 47 [.cpx a b, .int .i64 k] = some (.cpx (rotK (quarters k) (a, b)).1 (rotK (quarters k) (a, b)).2) := by
  have hq := quarters_le k
  have hlp : ∀ π, Con.holds ⟨fnOf, specK, L+1⟩ (runF ⟨fnOf, specK, L+1⟩ n) (.loop 0 [0, 1, 5] m47b0 π (ruSt a b (quarters k : Int) 0) (.exit 0) (ruSt (rotK (quarters k) (a, b)).1 (rotK (quarters k) (a, b)).2 (quarters k : Int) (quarters k))) := fun π => by
    refine loopX (res := m47.res) (fun i => ruSt (rotK i (a, b)).1 (rotK i (a, b)).2 (quarters k : Int) i) (quarters k) rfl (by omega) (fun i hi => ?_) ?_ (by simp)
    · have := @rur_0 (L+1) n (rotK i (a, b)).1 (rotK i (a, b)).2 0 0 i (quarters k : Int) 0 π (dLt hi)
      rw [wrap_id (n := (i : Int) + 1) (by omega)] at this
      exact this
    · exact @rur_1 (L+1) n _ _ 0 0 (quarters k) (quarters k : Int) 0 π dNlt
  have ht : k.tmod 4 = k % 4 ∨ (k.tmod 4 < 0 ∧ k.tmod 4 + 4 = k % 4) := by
    have h1 := Int.tmod_eq_emod (a := k) (b := 4)
    split at h1 <;> omega
  by_cases h : k.tmod 4 < 0
  · have e : IntKind.wrap .i64 (k.tmod 4 + 4) = (quarters k : Int) := by rw [wrap_id (by omega)]; unfold quarters; omega
    refine @ru_0 (L+1) n a b _ _ (quarters k) (quarters k : Int) k [] (dT h) ?_
    rw [e]; exact hlp [10]
  · have e : k.tmod 4 = (quarters k : Int) := by unfold quarters; omega
    refine @ru_1 (L+1) n a b _ _ (quarters k) (quarters k : Int) k [] (dF h) ?_
    rw [e]; exact hlp [7]
end
def rotSem : List AV → Option AV
  | [.cpx a b, .v (.int .i64 k)] => some (.cpx (rotK (quarters k) (a, b)).1 (rotK (quarters k) (a, b)).2)
  | _ => none
def newR : FuncId → Option (List AV → Option AV)
  | 46 => some rotSem
  | 47 => some rotSem
  | _ => none
def specR : FuncId → Option (List AV → Option AV) := fun f => match newR f with | some g => some g | none => specK f
theorem spec_r : SpecOk Try.prog ⟨fnOf, specR, 0⟩ :=
  spec_adds spec_k (fun L => fnsOk _ _) follows newR fun f g h => by
    unfold newR at h
    split at h
    · cases h
      refine ⟨⟨_, Try.func46, ne_of_beq_false (by kernel_rfl), by kernel_rfl⟩, fun avs r h => ?_⟩
      unfold rotSem at h
      split at h
      · cases h; exact told (P := ⟨fnOf, specK, 0⟩) ⟨4, 1, rot_prog (by decide)⟩
      · cases h
    · cases h
      refine ⟨⟨_, Try.func47, ne_of_beq_false (by kernel_rfl), by kernel_rfl⟩, fun avs r h => ?_⟩
      unfold rotSem at h
      split at h
      · cases h; exact told (P := ⟨fnOf, specK, 0⟩) ⟨4, 1, rot_doc (by decide)⟩
      · cases h
    · cases h
end Go.Proofs.Ytnphdnokedhhkaa.Fw
namespace Go.Proofs.Ytnphdnokedhhkaa.Fw
open Go Go.RowKit

end Go.Proofs.Ytnphdnokedhhkaa.Fw
namespace Go.Proofs.Ytnphdnokedhhkaa.Fw
open Go Go.RowKit
end Go.Proofs.Ytnphdnokedhhkaa.Fw
namespace Go.Proofs.Ytnphdnokedhhkaa.Fw
open Go Go.RowKit
theorem hnLwTuB {P : Prog} {C : Caller} : Holds P C [] := trivial
theorem hcLwTuB {P : Prog} {C : Caller} {c : Con} {cs : List Con} (h : c.holds P C) (t : Holds P C cs) : Holds P C (c :: cs) := ⟨h, t⟩
theorem hbLwTuB {P : Prog} {C : Caller} {x y : Bool} {cs : List Con} (h : x = y) (t : Holds P C cs) : Holds P C (.b x y :: cs) := ⟨h, t⟩
def halfP (z : Nat × Nat) : Nat × Nat := (fdiv z.1 4611686018427387904, fdiv z.2 4611686018427387904)
def tuSem : List AV → Option AV
  | [.cpx a b, .imm [.v (.int .i64 k)]] => some (.cpx (rotK (quarters k) (a, b)).1 (rotK (quarters k) (a, b)).2)
  | _ => none
def haSem : List AV → Option AV
  | [.cpx a b] => some (.cpx (halfP (a, b)).1 (halfP (a, b)).2)
  | _ => none
theorem den_tu {L n a b : Nat} {k : Int} : den ⟨fnOf, specR, L⟩ (n+1) 49 [.cpx a b, .imm [.v (.int .i64 k)]] = some (.cpx (rotK (quarters k) (a, b)).1 (rotK (quarters k) (a, b)).2) :=
  denD_sound (q := []) (by kernel_rfl) hnLwTuB
theorem den_ha {L n a b : Nat} : den ⟨fnOf, specR, L⟩ (n+1) 50 [.cpx a b] = some (.cpx (halfP (a, b)).1 (halfP (a, b)).2) :=
  denD_sound (q := []) (by kernel_rfl) hnLwTuB
def newQ : FuncId → Option (List AV → Option AV)
  | 49 => some tuSem
  | 50 => some haSem
  | _ => none
def specQ : FuncId → Option (List AV → Option AV) := fun f => match newQ f with | some g => some g | none => specR f
theorem spec_q : SpecOk Try.prog ⟨fnOf, specQ, 0⟩ :=
  spec_adds spec_r (fun L => fnsOk _ _) follows newQ fun f g h => by
    unfold newQ at h
    split at h
    · cases h
      refine ⟨⟨_, Try.func49, ne_of_beq_false (by kernel_rfl), by kernel_rfl⟩, fun avs r h => ?_⟩
      unfold tuSem at h
      split at h
      · cases h; exact told (P := ⟨fnOf, specR, 0⟩) ⟨0, 1, den_tu⟩
      · cases h
    · cases h
      refine ⟨⟨_, Try.func50, ne_of_beq_false (by kernel_rfl), by kernel_rfl⟩, fun avs r h => ?_⟩
      unfold haSem at h
      split at h
      · cases h; exact told (P := ⟨fnOf, specR, 0⟩) ⟨0, 1, den_ha⟩
      · cases h
    · cases h
end Go.Proofs.Ytnphdnokedhhkaa.Fw
namespace Go.Proofs.Ytnphdnokedhhkaa.Fw
open Go Go.RowKit Go.Lib Go.Proofs.Ytnphdnokedhhkaa
/-- of an empty list, whether nil or not -/
theorem specPost_void {w w' : World} {e : Ending} {a : Option Addr} (he : e = .returned (.slice a 0 0)) (hb : Below w.heap.size w w') : SpecPost w (.own 1 [] true) e w' := by
  refine ⟨.slc ⟨0, 0, 0⟩ [0] 1 0 0 false, [(⟨0, 0, 0⟩, ⟨[0], [], 1, true⟩)], ⟨_, ⟨fun _ => none, (ρ0 fun _ => False).av, fun s st => s = ⟨0, 0, 0⟩ ∧ st = [0]⟩, fun q => q = [0], he, ?_, ?_, ?_, hb, fun q hq => .inr trivial, rfl, fun s hs _ => absurd hs (Nat.not_lt_zero _)⟩, by rfl, pkT_of (by rfl)⟩
  · refine Keep.mk (fun b hlt hn => ⟨hb.block b hlt, fun h => ?_⟩) (fun s b z st h _ => by cases h) (fun st h => False.elim h) (fun s b z st h _ => by cases h) (fun s st h => False.elim h)
    rcases h with h | ⟨s, z, st, h⟩
    · exact hn (.inl h)
    · cases h
  · exact ⟨rfl, .inl ⟨⟨rfl, rfl⟩, ⟨a, rfl⟩, rfl⟩⟩
  · refine HRel.mk (fun s blk hg => ?_) (fun s st h => h.2) (fun s b z st h => by cases h) (fun s s' b z z' st st' h _ => by cases h)
    have hg : (if (⟨0, 0, 0⟩ : Site) = s then some (⟨[0], [], 1, true⟩ : Blk) else none) = some blk := hg
    split at hg
    · rename_i h; subst h; cases hg; exact .inl ⟨⟨rfl, rfl⟩, rfl, rfl⟩
    · cases hg
set_option maxHeartbeats 2000000 in
set_option maxRecDepth 100000 in
theorem clone_zero (a : Addr) (c : Nat) (w : World) :
    Calls Try.prog 63 #[.slice (some a) 0 c] w fun e w' => e = .returned (.slice (some ⟨w.heap.size, 0, none⟩) 0 0) ∧ Below w.heap.size w w' := by
  have t26 : Try.prog.underlying 26 = some (.slice 37) := by kernel_rfl
  have mixed : Try.prog.follows .mixedOrders = true := by kernel_rfl
  have q26 : ∀ (w : World) (a : Option Addr) (n c n' c' : Nat), (binOp .eql 26 (.slice a n c) (.slice none n' c')).run Try.prog w = .ok (.bool a.isNone) w := fun w a n c n' c' => Lib.run_eql_slice_nil w _ _ a n c n' c' t26
  have u26 : ∀ w, Sem.run Try.prog (underlying 26) w = .ok (TypeDesc.slice 37) w := run_underlying t26
  obtain ⟨i0, hi, hz0, hz1, hz2⟩ : ∃ i0, Try.prog.info? 37 = some i0 ∧ i0.zero = some (.complex .f64 0 0) ∧ i0.size = 1 ∧ i0.bytes = 16 := ⟨_, rfl, by kernel_rfl, by kernel_rfl, by kernel_rfl⟩
  go_enter Try.func63, Try.ntmps63
  go_wp2
  go_ret
  exact ⟨rfl, (Below.refl _ w).alloc (Nat.le_refl _) _⟩
set_option maxHeartbeats 2000000 in
set_option maxRecDepth 100000 in
theorem clone_none (n c : Nat) (w : World) :
    Calls Try.prog 63 #[.slice none n c] w fun e w' => e = .returned (.slice none 0 0) ∧ w' = w := by
  have t26 : Try.prog.underlying 26 = some (.slice 37) := by kernel_rfl
  have mixed : Try.prog.follows .mixedOrders = true := by kernel_rfl
  have q26 : ∀ (w : World) (a : Option Addr) (n c n' c' : Nat), (binOp .eql 26 (.slice a n c) (.slice none n' c')).run Try.prog w = .ok (.bool a.isNone) w := fun w a n c n' c' => Lib.run_eql_slice_nil w _ _ a n c n' c' t26
  go_enter Try.func63, Try.ntmps63
  go_wp2
  go_ret
  exact ⟨rfl, rfl⟩
theorem clone_den {L n : Nat} {us : List (Nat × Nat)} (h : us ≠ []) (hm : us.length * 16 ≤ most) : den ⟨fnOf, specQ, L⟩ (n+1) 63 [.lst 1 (us.map celC)] = some (.own 1 (us.map celC) true) := by
  have h0 : Con.holds ⟨fnOf, specQ, L⟩ (runF ⟨fnOf, specQ, L⟩ n) (.any 0 [2] (MO.mk (some 4) (MOp.bin BinOp.eql EqK.slice (Opd.t 3) (Opd.k .nils)) none []) [(3, (.lst 1 (List.map celC us)))] [] (.v (.bool false)) []) := by
    cases us with
    | nil => exact absurd rfl h
    | cons x r => rfl
  have hd : denD ⟨fnOf, specQ, L⟩ n 63 [.lst 1 (us.map celC)] [((some 4), (Dec.any (.v (.bool false)) [])), ((some 7), Dec.cat)] = some ((.own 1 (List.take (List.length (List.map celC us)) (List.map celC us)) true), [(.any 0 [2] (MO.mk (some 4) (MOp.bin BinOp.eql EqK.slice (Opd.t 3) (Opd.k .nils)) none []) [(3, (.lst 1 (List.map celC us)))] [] (.v (.bool false)) []), (.st [3] [3]), (.cat 1 16 true (List.map celC us)), (.st [5] [5]), (.le (List.length (List.map celC us)) (List.length (List.map celC us)))]) := by kernel_rfl
  have := denD_sound hd ⟨h0, rfl, catC_ok hm, rfl, Nat.le_refl _, trivial⟩
  rw [this, tkMap map_len]
def cloneNE : List AV → Option AV
  | [.lst 1 els] => (unL unC els).bind fun us => if us ≠ [] ∧ us.length * 16 ≤ most then some (.own 1 (us.map celC) true) else none
  | _ => none
theorem cloneNE_is {avs : List AV} {r : AV} (h : cloneNE avs = some r) : ∃ us, avs = [.lst 1 (us.map celC)] ∧ us ≠ [] ∧ us.length * 16 ≤ most ∧ r = .own 1 (us.map celC) true := by
  unfold cloneNE at h
  split at h
  · rename_i els
    rw [Option.bind_eq_some_iff] at h
    obtain ⟨us, h1, h2⟩ := h
    split at h2
    · rename_i hm
      cases h2
      have := unL_inv (enc := celC) unC_is h1
      subst this
      exact ⟨us, rfl, hm.1, hm.2, rfl⟩
    · cases h2
  · cases h
def cloneSem : List AV → Option AV
  | [.lst 1 []] => some (.own 1 [] true)
  | avs => cloneNE avs
theorem cloneSem_at {us : List (Nat × Nat)} (hm : us.length * 16 ≤ most) : cloneSem [.lst 1 (us.map celC)] = some (.own 1 (us.map celC) true) := by
  cases us with
  | nil => rfl
  | cons x r =>
    show (unL unC ((x :: r).map celC)).bind _ = _
    rw [unC_L]
    show (if _ then _ else _) = _
    rw [if_pos ⟨by simp, hm⟩]
def newN : FuncId → Option (List AV → Option AV)
  | 63 => some cloneNE
  | _ => none
theorem spec_n : SpecOk Try.prog ⟨fnOf, fun f => match newN f with | some g => some g | none => specQ f, 0⟩ :=
  spec_adds spec_q (fun L => fnsOk _ _) follows newN fun f g h => by
    unfold newN at h
    split at h
    · cases h
      refine ⟨⟨_, Try.func63, ne_of_beq_false (by kernel_rfl), by kernel_rfl⟩, fun avs r h => ?_⟩
      obtain ⟨us, rfl, h1, h2, rfl⟩ := cloneNE_is h
      exact told (P := ⟨fnOf, specQ, 0⟩) ⟨0, 1, clone_den h1 h2⟩
    · cases h
def newZ : FuncId → Option (List AV → Option AV)
  | 63 => some cloneSem
  | _ => none
/-- Clone, too: of an empty list, nil or not, as well -/
def specZ : FuncId → Option (List AV → Option AV) := fun f => match newZ f with | some g => some g | none => specQ f
theorem spec_z : SpecOk Try.prog ⟨fnOf, specZ, 0⟩ := by
  intro f g h
  have h : (match newZ f with | some g => some g | none => specQ f) = some g := h
  unfold newZ at h
  split at h
  · rename_i g' hq
    split at hq
    · cases hq
      cases h
      obtain ⟨hf, hc⟩ := spec_n 63 cloneNE rfl
      refine ⟨hf, fun avs r hr w cargs hrel => ?_⟩
      unfold cloneSem at hr
      split at hr
      · cases hr
        obtain ⟨us⟩ := cargs
        obtain ⟨u, rfl, hu⟩ := relL_one hrel
        rcases hu with ⟨_, rfl⟩ | ⟨p, cap, rfl, _⟩
        · exact (clone_none 0 0 w).mono fun e w' ⟨h1, h2⟩ => specPost_void h1 (by rw [h2]; exact Below.refl _ _)
        · exact (clone_zero p cap w).mono fun e w' ⟨h1, h2⟩ => specPost_void h1 h2
      · exact hc avs r hr w cargs hrel
    · cases hq
  · exact spec_q f g h
end Go.Proofs.Ytnphdnokedhhkaa.Fw
namespace Go.Proofs.Ytnphdnokedhhkaa.Fw
open Go Go.RowKit
theorem hnLwTuA {P : Prog} {C : Caller} : Holds P C [] := trivial
theorem hcLwTuA {P : Prog} {C : Caller} {c : Con} {cs : List Con} (h : c.holds P C) (t : Holds P C cs) : Holds P C (c :: cs) := ⟨h, t⟩
theorem hbLwTuA {P : Prog} {C : Caller} {x y : Bool} {cs : List Con} (h : x = y) (t : Holds P C cs) : Holds P C (.b x y :: cs) := ⟨h, t⟩

def chSt (g : AV) (rate delay : Int) (ts es out : List (Nat × Nat)) (mm i : Nat) : St := ⟨[(1, g), (2, .ptr ⟨0,2,0⟩ [0] 0 0), (4, .ptr ⟨0,4,0⟩ [1] 0 0), (7, .slc ⟨0,19,0⟩ [11] 1 0 mm true), (21, .lst 1 (ts.map celC)), (22, .int .i64 (ts.map celC).length), (23, .int .i64 i)],
  [(⟨0,4,1004⟩, ⟨[17], [], 1, true⟩), (⟨0,4,1003⟩, ⟨[17], [], 1, true⟩), (⟨0,2,0⟩, ⟨[0], [[.int .i64 rate, .int .i64 delay, .lst 1 (ts.map celC), .lst 1 (es.map celC)]], 4, false⟩), (⟨0,4,0⟩, ⟨[1], [[.int .i64 0, .int .i64 0, .slc ⟨0,4,1003⟩ [17] 1 0 0 false, .slc ⟨0,4,1004⟩ [17] 1 0 0 false]], 4, false⟩), (⟨0,19,0⟩, ⟨[11], out.map celC, 1, true⟩)], 0⟩
theorem chtr_0 {L n : Nat} {rate delay k : Int} {ts es out : List (Nat × Nat)} {mm o i : Nat} {st π : List Nat} {x26 : Nat × Nat} {k33 : Nat} {x0 : Nat × Nat} (h0 : (decide ((↑i : Int) < (↑(List.map celC ts).length : Int))) = true) (h1 : Con.holds ⟨fnOf, specZ, L⟩ (runF ⟨fnOf, specZ, L⟩ n) (.el (List.map celC ts) (.v (.int .i64 ((↑i : Int)))) [(AV.cpx (x26.fst) (x26.snd))])) (h2 : Con.holds ⟨fnOf, specZ, L⟩ (runF ⟨fnOf, specZ, L⟩ n) (.ix (.v (.int .i64 ((↑i : Int)))) (mm) (k33))) (h3 : Con.holds ⟨fnOf, specZ, L⟩ (runF ⟨fnOf, specZ, L⟩ n) (.at (List.map celC out) (0 + k33) [(AV.cpx (x0.fst) (x0.snd))])) : rnd 0 [1, 2, 4, 7, 21, 22, 23] (bodyOf ⟨fnOf, specZ, L⟩ (runF ⟨fnOf, specZ, L⟩ n) 0 m48b0 (π) (chSt (.fn (.func 49) [] [.imm [.int .i64 k]]) rate delay ts es out mm i : St)) = some (.nrm, (.mk [(1, (.fn (Fn.func 49) [] [(.imm [(.v (.int .i64 (k)))])])), (2, (.ptr (.mk 0 2 0) [0] 0 0)), (4, (.ptr (.mk 0 4 0) [1] 0 0)), (7, (.slc (.mk 0 19 0) [11] 1 0 (mm) true)), (21, (.lst 1 (List.map celC ts))), (22, (.v (.int .i64 ((↑(List.map celC ts).length : Int))))), (23, (.v (.int .i64 (IntKind.wrap .i64 ((↑i : Int) + 1)))))] [((.mk 0 4 1004), (.mk [17] [] 1 true)), ((.mk 0 4 1003), (.mk [17] [] 1 true)), ((.mk 0 2 0), (.mk [0] [[(.v (.int .i64 (rate))), (.v (.int .i64 (delay))), (.lst 1 (List.map celC ts)), (.lst 1 (List.map celC es))]] 4 false)), ((.mk 0 4 0), (.mk [1] [[(.v (.int .i64 0)), (.v (.int .i64 0)), (.slc (.mk 0 4 1003) [17] 1 0 0 false), (.slc (.mk 0 4 1004) [17] 1 0 0 false)]] 4 false)), ((.mk 0 19 0), (.mk [11] (List.set (List.map celC out) (0 + k33) [(AV.cpx ((rotK (quarters k) (x26.fst, x26.snd)).fst) ((rotK (quarters k) (x26.fst, x26.snd)).snd))]) 1 true))] 0)) :=
  rndD_sound (q := [((some 24), (Dec.b true)), ((some 26), (Dec.el [(AV.cpx (x26.fst) (x26.snd))])), ((some 33), (Dec.ix (k33))), (none, (Dec.el [(AV.cpx (x0.fst) (x0.snd))]))]) (by kernel_rfl) (hbLwTuA h0 (hcLwTuA h1 (hcLwTuA h2 (hcLwTuA (c := (.st [11] [11])) rfl (hcLwTuA h3 hnLwTuA)))))
theorem chtr_1 {L n : Nat} {rate delay k : Int} {ts es out : List (Nat × Nat)} {mm o i : Nat} {st π : List Nat} (h0 : (decide ((↑i : Int) < (↑(List.map celC ts).length : Int))) = false) : rnd 0 [1, 2, 4, 7, 21, 22, 23] (bodyOf ⟨fnOf, specZ, L⟩ (runF ⟨fnOf, specZ, L⟩ n) 0 m48b0 (π) (chSt (.fn (.func 49) [] [.imm [.int .i64 k]]) rate delay ts es out mm i : St)) = some ((.exit 0), (.mk [(1, (.fn (Fn.func 49) [] [(.imm [(.v (.int .i64 (k)))])])), (2, (.ptr (.mk 0 2 0) [0] 0 0)), (4, (.ptr (.mk 0 4 0) [1] 0 0)), (7, (.slc (.mk 0 19 0) [11] 1 0 (mm) true)), (21, (.lst 1 (List.map celC ts))), (22, (.v (.int .i64 ((↑(List.map celC ts).length : Int))))), (23, (.v (.int .i64 ((↑i : Int)))))] [((.mk 0 4 1004), (.mk [17] [] 1 true)), ((.mk 0 4 1003), (.mk [17] [] 1 true)), ((.mk 0 2 0), (.mk [0] [[(.v (.int .i64 (rate))), (.v (.int .i64 (delay))), (.lst 1 (List.map celC ts)), (.lst 1 (List.map celC es))]] 4 false)), ((.mk 0 4 0), (.mk [1] [[(.v (.int .i64 0)), (.v (.int .i64 0)), (.slc (.mk 0 4 1003) [17] 1 0 0 false), (.slc (.mk 0 4 1004) [17] 1 0 0 false)]] 4 false)), ((.mk 0 19 0), (.mk [11] (List.map celC out) 1 true))] 0)) :=
  rndD_sound (q := [((some 24), (Dec.b false))]) (by kernel_rfl) (hbLwTuA h0 hnLwTuA)
theorem cht_0 {L n : Nat} {rate delay k : Int} {ts es out : List (Nat × Nat)} {mm o i : Nat} {st π : List Nat} {c11 : Int} (h0 : Con.holds ⟨fnOf, specZ, L⟩ (runF ⟨fnOf, specZ, L⟩ n) (.spec 22 [(.agg [(.v (.int .i64 (rate))), (.v (.int .i64 (delay))), (.lst 1 (List.map celC ts)), (.lst 1 (List.map celC es))])] (.v (.int .i64 (c11))))) (h1 : (c11 != 0) = true) : den ⟨fnOf, specZ, L⟩ (n+1) 48 [.agg [.int .i64 rate, .int .i64 delay, .lst 1 (ts.map celC), .lst 1 (es.map celC)], .fn (.func 49) [] [.imm [.int .i64 k]]] = some (.tup [(.agg [(.v (.int .i64 0)), (.v (.int .i64 0)), .nils, .nils]), (.v (.int .i64 (c11)))]) :=
  denD_sound (q := [((some 11), (Dec.call (.v (.int .i64 (c11))))), ((some 13), (Dec.b true))]) (by kernel_rfl) (hcLwTuA (c := (.st [0] [0])) rfl (hcLwTuA h0 (hbLwTuA h1 (hcLwTuA (c := (.st [1] [1])) rfl hnLwTuA))))
theorem cht_2 {L n : Nat} {rate delay k : Int} {ts es out : List (Nat × Nat)} {mm o i : Nat} {st π : List Nat} {c11 : Int} {c36 : Bool} {us46 : List (Nat × Nat)} (h0 : Con.holds ⟨fnOf, specZ, L⟩ (runF ⟨fnOf, specZ, L⟩ n) (.spec 22 [(.agg [(.v (.int .i64 (rate))), (.v (.int .i64 (delay))), (.lst 1 (List.map celC ts)), (.lst 1 (List.map celC es))])] (.v (.int .i64 (c11))))) (h1 : (c11 != 0) = false) (h2 : Con.holds ⟨fnOf, specZ, L⟩ (runF ⟨fnOf, specZ, L⟩ n) (.mk (mm) (mm) true (List.map celC (List.replicate mm (0, 0))) ((↑(List.map celC ts).length : Int)) ((↑(List.map celC ts).length : Int)) 16 [(AV.cpx 0 0)])) (h3 : Con.holds ⟨fnOf, specZ, L⟩ (runF ⟨fnOf, specZ, L⟩ n) (.loop 0 [1, 2, 4, 7, 21, 22, 23] m48b0 [17] (.mk [(1, (.fn (Fn.func 49) [] [(.imm [(.v (.int .i64 (k)))])])), (2, (.ptr (.mk 0 2 0) [0] 0 0)), (4, (.ptr (.mk 0 4 0) [1] 0 0)), (7, (.slc (.mk 0 19 0) [11] 1 0 (mm) true)), (21, (.lst 1 (List.map celC ts))), (22, (.v (.int .i64 ((↑(List.map celC ts).length : Int))))), (23, (.v (.int .i64 0)))] [((.mk 0 4 1004), (.mk [17] [] 1 true)), ((.mk 0 4 1003), (.mk [17] [] 1 true)), ((.mk 0 2 0), (.mk [0] [[(.v (.int .i64 (rate))), (.v (.int .i64 (delay))), (.lst 1 (List.map celC ts)), (.lst 1 (List.map celC es))]] 4 false)), ((.mk 0 4 0), (.mk [1] [[(.v (.int .i64 0)), (.v (.int .i64 0)), (.slc (.mk 0 4 1003) [17] 1 0 0 false), (.slc (.mk 0 4 1004) [17] 1 0 0 false)]] 4 false)), ((.mk 0 19 0), (.mk [11] (List.map celC (List.replicate mm (0, 0))) 1 true))] 0) (.exit 0) (.mk [(1, (.fn (Fn.func 49) [] [(.imm [(.v (.int .i64 (k)))])])), (2, (.ptr (.mk 0 2 0) [0] 0 0)), (4, (.ptr (.mk 0 4 0) [1] 0 0)), (7, (.slc (.mk 0 19 0) [11] 1 0 (mm) true)), (21, (.lst 1 (List.map celC ts))), (22, (.v (.int .i64 ((↑(List.map celC ts).length : Int))))), (23, (.v (.int .i64 ((↑i : Int)))))] [((.mk 0 4 1004), (.mk [17] [] 1 true)), ((.mk 0 4 1003), (.mk [17] [] 1 true)), ((.mk 0 2 0), (.mk [0] [[(.v (.int .i64 (rate))), (.v (.int .i64 (delay))), (.lst 1 (List.map celC ts)), (.lst 1 (List.map celC es))]] 4 false)), ((.mk 0 4 0), (.mk [1] [[(.v (.int .i64 0)), (.v (.int .i64 0)), (.slc (.mk 0 4 1003) [17] 1 0 0 false), (.slc (.mk 0 4 1004) [17] 1 0 0 false)]] 4 false)), ((.mk 0 19 0), (.mk [11] (List.map celC out) 1 true))] 0))) (h4 : Con.holds ⟨fnOf, specZ, L⟩ (runF ⟨fnOf, specZ, L⟩ n) (.spec 41 [(.lst 1 (cutX (List.map celC out) 0 (mm)))] (.v (.bool (c36))))) (h5 : Con.holds ⟨fnOf, specZ, L⟩ (runF ⟨fnOf, specZ, L⟩ n) (.le (0 + mm) (List.length (List.map celC out)))) (h6 : (!c36) = false) (h7 : Con.holds ⟨fnOf, specZ, L⟩ (runF ⟨fnOf, specZ, L⟩ n) (.spec 63 [(.lst 1 (List.map celC es))] (.own 1 (List.map celC us46) true))) (h8 : Con.holds ⟨fnOf, specZ, L⟩ (runF ⟨fnOf, specZ, L⟩ n) (.le (mm) (List.length (List.map celC out)))) (h9 : Con.holds ⟨fnOf, specZ, L⟩ (runF ⟨fnOf, specZ, L⟩ n) (.le (List.length (List.map celC us46)) (List.length (List.map celC us46)))) : den ⟨fnOf, specZ, L⟩ (n+1) 48 [.agg [.int .i64 rate, .int .i64 delay, .lst 1 (ts.map celC), .lst 1 (es.map celC)], .fn (.func 49) [] [.imm [.int .i64 k]]] = some (.tup [(.agg [(.v (.int .i64 (rate))), (.v (.int .i64 (delay))), (.own 1 (List.take (mm) (List.map celC out)) true), (.own 1 (List.take (List.length (List.map celC us46)) (List.map celC us46)) true)]), (.v (.int .i64 0))]) :=
  denD_sound (q := [((some 11), (Dec.call (.v (.int .i64 (c11))))), ((some 13), (Dec.b false)), ((some 19), (Dec.mk (mm) (mm) true (List.map celC (List.replicate mm (0, 0))))), ((some 200000), (Dec.loop (.exit 0) (.mk [(1, (.fn (Fn.func 49) [] [(.imm [(.v (.int .i64 (k)))])])), (2, (.ptr (.mk 0 2 0) [0] 0 0)), (4, (.ptr (.mk 0 4 0) [1] 0 0)), (7, (.slc (.mk 0 19 0) [11] 1 0 (mm) true)), (21, (.lst 1 (List.map celC ts))), (22, (.v (.int .i64 ((↑(List.map celC ts).length : Int))))), (23, (.v (.int .i64 ((↑i : Int)))))] [((.mk 0 4 1004), (.mk [17] [] 1 true)), ((.mk 0 4 1003), (.mk [17] [] 1 true)), ((.mk 0 2 0), (.mk [0] [[(.v (.int .i64 (rate))), (.v (.int .i64 (delay))), (.lst 1 (List.map celC ts)), (.lst 1 (List.map celC es))]] 4 false)), ((.mk 0 4 0), (.mk [1] [[(.v (.int .i64 0)), (.v (.int .i64 0)), (.slc (.mk 0 4 1003) [17] 1 0 0 false), (.slc (.mk 0 4 1004) [17] 1 0 0 false)]] 4 false)), ((.mk 0 19 0), (.mk [11] (List.map celC out) 1 true))] 0))), ((some 36), (Dec.call (.v (.bool (c36))))), ((some 37), (Dec.b false)), ((some 46), (Dec.call (.own 1 (List.map celC us46) true)))]) (by kernel_rfl) (hcLwTuA (c := (.st [0] [0])) rfl (hcLwTuA h0 (hbLwTuA h1 (hcLwTuA (c := (.st [0] [0])) rfl (hcLwTuA h2 (hcLwTuA (c := (.st [0] [0])) rfl (hcLwTuA h3 (hcLwTuA h4 (hcLwTuA (c := (.st [11] [11])) rfl (hcLwTuA h5 (hbLwTuA h6 (hcLwTuA (c := (.st [0] [0])) rfl (hcLwTuA (c := (.st [0] [0])) rfl (hcLwTuA (c := (.st [0] [0])) rfl (hcLwTuA h7 (hcLwTuA (c := (.st [1] [1])) rfl (hcLwTuA (c := (.st [11] [11])) rfl (hcLwTuA h8 (hcLwTuA (c := (.st [1, 28] [1, 28])) rfl (hcLwTuA h9 hnLwTuA))))))))))))))))))))
theorem tupx_0 {L n : Nat} {rate delay k : Int} {ts es out : List (Nat × Nat)} {mm o i : Nat} {st π : List Nat} {e : Int} (h0 : Con.holds ⟨fnOf, specZ, L⟩ (runF ⟨fnOf, specZ, L⟩ n) (.call 48 [(.agg [(.v (.int .i64 (rate))), (.v (.int .i64 (delay))), (.lst 1 (List.map celC ts)), (.lst 1 (List.map celC es))]), (.fn (Fn.func 49) [] [(.imm [(.v (.int .i64 (k)))])])] (.tup [(.agg [(.v (.int .i64 0)), (.v (.int .i64 0)), .nils, .nils]), (.v (.int .i64 (e)))]))) : den ⟨fnOf, specZ, L⟩ (n+1) 26 [.agg [.int .i64 rate, .int .i64 delay, .lst 1 (ts.map celC), .lst 1 (es.map celC)], .int .i64 k] = some (.tup [(.agg [(.v (.int .i64 0)), (.v (.int .i64 0)), .nils, .nils]), (.v (.int .i64 (e)))]) :=
  denD_sound (q := [((some 8), (Dec.call (.tup [(.agg [(.v (.int .i64 0)), (.v (.int .i64 0)), .nils, .nils]), (.v (.int .i64 (e)))])))]) (by kernel_rfl) (hcLwTuA (c := (.st [0] [0])) rfl (hcLwTuA h0 (hcLwTuA (c := (.st [1] [1])) rfl (hcLwTuA (c := (.st [2] [2])) rfl hnLwTuA))))
theorem tup_0 {L n : Nat} {rate delay k : Int} {ts es out : List (Nat × Nat)} {mm o i : Nat} {st π : List Nat} {ts8 : List (Nat × Nat)} {es8 : List (Nat × Nat)} {r8 : Int} {d8 : Int} {e8 : Int} (h0 : Con.holds ⟨fnOf, specZ, L⟩ (runF ⟨fnOf, specZ, L⟩ n) (.call 48 [(.agg [(.v (.int .i64 (rate))), (.v (.int .i64 (delay))), (.lst 1 (List.map celC ts)), (.lst 1 (List.map celC es))]), (.fn (Fn.func 49) [] [(.imm [(.v (.int .i64 (k)))])])] (.tup [(.agg [(.v (.int .i64 (r8))), (.v (.int .i64 (d8))), (.own 1 (List.map celC ts8) true), (.own 1 (List.map celC es8) true)]), (.v (.int .i64 (e8)))]))) (h1 : Con.holds ⟨fnOf, specZ, L⟩ (runF ⟨fnOf, specZ, L⟩ n) (.le (List.length (List.map celC ts8)) (List.length (List.map celC ts8)))) (h2 : Con.holds ⟨fnOf, specZ, L⟩ (runF ⟨fnOf, specZ, L⟩ n) (.le (List.length (List.map celC es8)) (List.length (List.map celC es8)))) : den ⟨fnOf, specZ, L⟩ (n+1) 26 [.agg [.int .i64 rate, .int .i64 delay, .lst 1 (ts.map celC), .lst 1 (es.map celC)], .int .i64 k] = some (.tup [(.agg [(.v (.int .i64 (r8))), (.v (.int .i64 (d8))), (.own 1 (List.take (List.length (List.map celC ts8)) (List.map celC ts8)) true), (.own 1 (List.take (List.length (List.map celC es8)) (List.map celC es8)) true)]), (.v (.int .i64 (e8)))]) :=
  denD_sound (q := [((some 8), (Dec.call (.tup [(.agg [(.v (.int .i64 (r8))), (.v (.int .i64 (d8))), (.own 1 (List.map celC ts8) true), (.own 1 (List.map celC es8) true)]), (.v (.int .i64 (e8)))])))]) (by kernel_rfl) (hcLwTuA (c := (.st [0] [0])) rfl (hcLwTuA h0 (hcLwTuA (c := (.st [1] [1])) rfl (hcLwTuA (c := (.st [2] [2])) rfl (hcLwTuA (c := (.st [1, 6] [1, 6])) rfl (hcLwTuA h1 (hcLwTuA (c := (.st [2, 6] [2, 6])) rfl (hcLwTuA h2 hnLwTuA))))))))
end Go.Proofs.Ytnphdnokedhhkaa.Fw
namespace Go.Proofs.Ytnphdnokedhhkaa.Fw
open Go Go.RowKit
theorem map_tab {f : Nat × Nat → Nat × Nat} {ts : List (Nat × Nat)} : ts.map f = tab (fun j => f (ts.getD j (0, 0))) ts.length :=
  eq_tab (d := (0, 0)) (List.length_map ..) fun j hj => getD_map hj
/-- a strait whose taps are changed -/
def chgA (e rate delay : Int) (l es : List (Nat × Nat)) : AV := if e = 0 then .tup [.agg [.int .i64 rate, .int .i64 delay, .own 1 (l.map celC) true, .own 1 (es.map celC) true], .int .i64 0] else failA e
section
variable {L n : Nat} {rate delay k : Int} {ts es : List (Nat × Nat)}
theorem es_small (h : es.length = 0 ∨ tapsF es = true) : es.length ≤ 64 := by
  rcases h with h | h
  · omega
  · exact (tapsF_is.1 h).2.1
theorem cht_loop (hL : ts.length ≤ L) (hm : ts.length ≤ 64) : Con.holds ⟨fnOf, specZ, L+1⟩ (runF ⟨fnOf, specZ, L+1⟩ n) (.loop 0 [1, 2, 4, 7, 21, 22, 23] m48b0 [17] (chSt (.fn (.func 49) [] [.imm [.int .i64 k]]) rate delay ts es (List.replicate ts.length (0, 0)) ts.length 0) (.exit 0) (chSt (.fn (.func 49) [] [.imm [.int .i64 k]]) rate delay ts es (ts.map (rotK (quarters k))) ts.length ts.length)) := by
  have hl : (ts.map celC).length = ts.length := map_len
  obtain ⟨s', g1, o2, rfl, g2, g3⟩ := loopJ (P := ⟨fnOf, specZ, L+1⟩) (C := runF ⟨fnOf, specZ, L+1⟩ n) (L := L) (d := 0) (live := [1, 2, 4, 7, 21, 22, 23]) (π := [17]) (m := m48b0) (A := chSt (.fn (.func 49) [] [.imm [.int .i64 k]]) rate delay ts es (List.replicate ts.length (0, 0)) ts.length 0)
    (fun i s => ∃ o2 : List (Nat × Nat), s = chSt (.fn (.func 49) [] [.imm [.int .i64 k]]) rate delay ts es o2 ts.length i ∧ o2.length = ts.length ∧ ∀ j, j < i → o2.getD j (0, 0) = (rotK (quarters k)) (ts.getD j (0, 0)))
    (fun s => ∃ o2 : List (Nat × Nat), s = chSt (.fn (.func 49) [] [.imm [.int .i64 k]]) rate delay ts es o2 ts.length ts.length ∧ o2.length = ts.length ∧ ∀ j, j < ts.length → o2.getD j (0, 0) = (rotK (quarters k)) (ts.getD j (0, 0)))
    ts.length (x := .exit 0) (by simp) rfl hL ⟨_, rfl, List.length_replicate, fun j hj => by omega⟩
    (fun i s hi hs => by
      obtain ⟨o2, rfl, h2, h3⟩ := hs
      have a1 : Con.holds ⟨fnOf, specZ, L+1⟩ (runF ⟨fnOf, specZ, L+1⟩ n) (.at (o2.map celC) (0 + i) [.cpx (o2.getD i (0, 0)).1 (o2.getD i (0, 0)).2]) := by
        rw [Nat.zero_add]; exact atD_map (f := celC) (by omega)
      have := @chtr_0 (L+1) n rate delay k ts es o2 ts.length 0 i [] (i :: [17]) (ts.getD i (0, 0)) i (o2.getD i (0, 0)) (by rw [hl]; exact dLt hi) (elD_map (f := celC) hi) (ix_at hi) a1
      rw [wrap_id (n := (i : Int) + 1) (by omega)] at this
      refine ⟨_, this, o2.set i ((rotK (quarters k)) (ts.getD i (0, 0))), ?_, by rw [List.length_set, h2], fun j hj => ?_⟩
      · unfold chSt
        rw [← map_set, Nat.zero_add]
        rfl
      · rw [getD_sets (by omega)]
        by_cases hj2 : i = j
        · subst hj2; rw [if_pos rfl]
        · rw [if_neg hj2]; exact h3 j (by omega))
    (fun s hs => by
      obtain ⟨o2, rfl, h2, h3⟩ := hs
      exact ⟨_, @chtr_1 (L+1) n rate delay k ts es o2 ts.length 0 ts.length [] [ts.length, 17] (by rw [hl]; exact dNlt), o2, rfl, h2, h3⟩)
  have : o2 = ts.map (rotK (quarters k)) := by rw [map_tab]; exact eq_tab g2 g3
  rw [this] at g1
  exact g1
theorem cht_den (hL : 64 ≤ L) (m1 : shortL ts) (m2 : shortL es) : den ⟨fnOf, specZ, L+1⟩ (n+1) 48 [.agg [.int .i64 rate, .int .i64 delay, .lst 1 (ts.map celC), .lst 1 (es.map celC)], .fn (.func 49) [] [.imm [.int .i64 k]]] = some (chgA (chkT rate delay ts es) rate delay (ts.map (rotK (quarters k))) es) := by
  have hl : (ts.map celC).length = ts.length := map_len
  have p1 := spec_is (P := ⟨fnOf, specZ, L+1⟩) (C := runF ⟨fnOf, specZ, L+1⟩ n) (f := 22) rfl (chkSem_at (rate := rate) (delay := delay) m1 m2)
  by_cases a1 : chkT rate delay ts es = 0
  case neg =>
    have e : chkT rate delay ts es = chkT rate delay ts es := rfl
    have b1 : (chkT rate delay ts es != 0) = true := by simpa using a1
    unfold chgA
    rw [e, if_neg a1]
    exact @cht_0 (L+1) n rate delay k ts es [] 0 0 0 [] [] _ p1 b1
  have n1 : (chkT rate delay ts es != 0) = false := by rw [a1]; rfl
  obtain ⟨_, _, _, _, t1, t2⟩ := chkT_ok a1
  obtain ⟨_, u2, _, _⟩ := tapsF_is.1 t1
  have hes := es_small t2
  have hml : (ts.map (rotK (quarters k))).length = ts.length := List.length_map ..
  have hmk : Con.holds ⟨fnOf, specZ, L+1⟩ (runF ⟨fnOf, specZ, L+1⟩ n) (.mk ts.length ts.length true ((List.replicate ts.length (0, 0)).map celC) ((ts.map celC).length : Int) ((ts.map celC).length : Int) 16 [.cpx 0 0]) := by
    rw [hl]; exact mk_ok (f := celC) rfl (by simp only [most]; omega) (by simp only [most]; omega)
  have hlp := @cht_loop L n rate delay k ts es (by omega) u2
  have hcut : cutX ((ts.map (rotK (quarters k))).map celC) 0 ts.length = (ts.map (rotK (quarters k))).map celC := by rw [cutM, List.take_of_length_le (by rw [hml]; exact Nat.le_refl _)]
  have htk : List.take ts.length ((ts.map (rotK (quarters k))).map celC) = (ts.map (rotK (quarters k))).map celC := tkMap hml.symm
  have htp : Con.holds ⟨fnOf, specZ, L+1⟩ (runF ⟨fnOf, specZ, L+1⟩ n) (.spec 41 [.lst 1 (cutX ((ts.map (rotK (quarters k))).map celC) 0 ts.length)] (.v (.bool (tapsF (ts.map (rotK (quarters k))))))) := by rw [hcut]; exact spec_is rfl (tapSem_at (by rw [hml]; omega))
  have hle1 : Con.holds ⟨fnOf, specZ, L+1⟩ (runF ⟨fnOf, specZ, L+1⟩ n) (.le (0 + ts.length) ((ts.map (rotK (quarters k))).map celC).length) := by
    show _ ≤ _; rw [show List.length _ = _ from map_len, hml]; omega
  have hle2 : Con.holds ⟨fnOf, specZ, L+1⟩ (runF ⟨fnOf, specZ, L+1⟩ n) (.le ts.length ((ts.map (rotK (quarters k))).map celC).length) := by
    show _ ≤ _; rw [show List.length _ = _ from map_len, hml]; omega
  have hcl : Con.holds ⟨fnOf, specZ, L+1⟩ (runF ⟨fnOf, specZ, L+1⟩ n) (.spec 63 [.lst 1 (es.map celC)] (.own 1 (es.map celC) true)) := spec_is rfl (cloneSem_at (by simp only [most]; omega))
  have hq : tapsF (ts.map (rotK (quarters k))) = true := taps_rotK t1 _
  have := @cht_2 (L+1) n rate delay k ts es (ts.map (rotK (quarters k))) ts.length 0 ts.length [] [] _ _ es p1 n1 hmk hlp htp hle1 (by rw [hq]; rfl) hcl hle2 (Nat.le_refl _)
  rw [htk, List.take_of_length_le (Nat.le_refl _)] at this
  unfold chgA
  rw [if_pos a1]
  exact this
theorem turned_prog (hL : 64 ≤ L) (m1 : shortL ts) (m2 : shortL es) : den ⟨fnOf, specZ, L+1⟩ (n+2) 26 [.agg [.int .i64 rate, .int .i64 delay, .lst 1 (ts.map celC), .lst 1 (es.map celC)], .int .i64 k] = some (chgA (chkT rate delay ts es) rate delay (ts.map (rotK (quarters k))) es) := by
  have h := call_den (@cht_den L n rate delay k ts es hL m1 m2)
  unfold chgA at h ⊢
  by_cases e : chkT rate delay ts es = 0
  · rw [if_pos e] at h ⊢
    have := @tup_0 (L+1) (n+1) rate delay k ts es [] 0 0 0 [] [] _ es rate delay 0 h (Nat.le_refl _) (Nat.le_refl _)
    rw [List.take_of_length_le (Nat.le_refl _), List.take_of_length_le (Nat.le_refl _)] at this
    exact this
  · rw [if_neg e] at h ⊢
    exact @tupx_0 (L+1) (n+1) rate delay k ts es [] 0 0 0 [] [] _ h
end
end Go.Proofs.Ytnphdnokedhhkaa.Fw
namespace Go.Proofs.Ytnphdnokedhhkaa.Fw
open Go Go.RowKit
theorem works_den : den ⟨fnOf, specV, 300⟩ 12 35 [] = some (.v (.bool true)) := by kernel_rfl
def wkSem : List AV → Option AV
  | [] => some (.v (.bool true))
  | _ => none
def newWk : FuncId → Option (List AV → Option AV)
  | 35 => some wkSem
  | _ => none
/-- works, beside what is spoken for with nil lists -/
def specVW : FuncId → Option (List AV → Option AV) := fun f => match newWk f with | some g => some g | none => specV f
theorem spec_vw : SpecOk Try.prog ⟨fnOf, specVW, 0⟩ :=
  spec_adds spec_v (fun L => fnsOk _ _) follows newWk fun f g h => by
    unfold newWk at h
    split at h
    · cases h
      refine ⟨⟨_, Try.func35, ne_of_beq_false (by kernel_rfl), by kernel_rfl⟩, fun avs r h => ?_⟩
      unfold wkSem at h
      split at h
      · cases h; exact told (P := ⟨fnOf, specV, 0⟩) ⟨300, 12, works_den⟩
      · cases h
    · cases h
end Go.Proofs.Ytnphdnokedhhkaa.Fw
namespace Go.Proofs.Ytnphdnokedhhkaa.Fw
open Go Go.RowKit
abbrev HLwOuAspecK (L n : Nat) : Con → Prop := Con.holds ⟨fnOf, specK, L⟩ (runF ⟨fnOf, specK, L⟩ n)
theorem hnLwOuA {P : Prog} {C : Caller} : Holds P C [] := trivial
theorem hcLwOuA {P : Prog} {C : Caller} {c : Con} {cs : List Con} (h : c.holds P C) (t : Holds P C cs) : Holds P C (c :: cs) := ⟨h, t⟩
theorem hbLwOuA {P : Prog} {C : Caller} {x y : Bool} {cs : List Con} (h : x = y) (t : Holds P C cs) : Holds P C (.b x y :: cs) := ⟨h, t⟩

def fiSt (ps : List Int) (most : Int) (zs : List (Nat × Nat)) (left : Int) (st : List Nat) (o : Nat) (i : Int) : St := ⟨[(0, .lst 1 (ps.map celI)), (1, .int .i64 most), (5, .int .i64 left), (6, .slc ⟨0,6,1000⟩ st 1 0 o false), (7, .int .i64 i)], [(⟨0,6,1000⟩, ⟨st, zs.map celC, 1, true⟩)], 0⟩
def plSt (ps : List Int) (unit size most : Int) (zs : List (Nat × Nat)) (st : List Nat) (o : Nat) (i : Int) : St := ⟨[(0, .lst 1 (ps.map celI)), (1, .int .i64 unit), (2, .int .i64 size), (3, .int .i64 most), (9, .slc ⟨0,9,1000⟩ st 1 0 o false), (10, .int .i64 i)], [(⟨0,9,1000⟩, ⟨st, zs.map celC, 1, true⟩)], 0⟩
theorem fil_0 {L n : Nat} {ps : List Int} {most left k unit size i : Int} {zs : List (Nat × Nat)} {o : Nat} {st π : List Nat} (h0 : HLwOuAspecK L n (.loop 0 [0, 1, 5, 6, 7] m55b0 [4] (.mk [(0, (.lst 1 (List.map celI ps))), (1, (.v (.int .i64 (most)))), (5, (.v (.int .i64 256))), (6, (.slc (.mk 0 6 1000) [4] 1 0 0 false)), (7, (.v (.int .i64 0)))] [((.mk 0 6 1000), (.mk [4] [] 1 true))] 0) (.exit 0) (.mk [(0, (.lst 1 (List.map celI ps))), (1, (.v (.int .i64 (most)))), (5, (.v (.int .i64 (left)))), (6, (.slc (.mk 0 6 1000) (st) 1 0 (o) false)), (7, (.v (.int .i64 (i))))] [((.mk 0 6 1000), (.mk (st) (List.map celC zs) 1 true))] 0))) (h1 : HLwOuAspecK L n (.le (o) (List.length (List.map celC zs)))) : den ⟨fnOf, specK, L⟩ (n+1) 55 [.lst 1 (ps.map celI), .int .i64 most] = some (.own 1 (List.take (o) (List.map celC zs)) true) :=
  denD_sound (q := [((some 200000), (Dec.loop (.exit 0) (.mk [(0, (.lst 1 (List.map celI ps))), (1, (.v (.int .i64 (most)))), (5, (.v (.int .i64 (left)))), (6, (.slc (.mk 0 6 1000) (st) 1 0 (o) false)), (7, (.v (.int .i64 (i))))] [((.mk 0 6 1000), (.mk (st) (List.map celC zs) 1 true))] 0)))]) (by kernel_rfl) (hcLwOuA h0 (hcLwOuA (c := (.st (st) (st))) rfl (hcLwOuA h1 hnLwOuA)))
theorem flr_0 {L n : Nat} {ps : List Int} {most left k unit size i : Int} {zs : List (Nat × Nat)} {o : Nat} {st π : List Nat} {j : Nat} {x25 : Int} {x31 : Int} (h0 : (decide (IntKind.wrap .i64 (i + 1) < (↑(List.map celI ps).length : Int))) = true) (h1 : (decide ((↑o : Int) < most)) = true) (h2 : HLwOuAspecK L n (.el (List.map celI ps) (.v (.int .i64 (i))) [(.v (.int .i64 (x25)))])) (h3 : HLwOuAspecK L n (.el (List.map celI ps) (.v (.int .i64 (IntKind.wrap .i64 (i + 1)))) [(.v (.int .i64 (x31)))])) (h4 : (decide ((if IntKind.wrap .i64 (0 - x25.tmod (65)) > x25.tmod (65) then IntKind.wrap .i64 (0 - x25.tmod (65)) else x25.tmod (65)) > left)) = true) (h5 : (decide ((if IntKind.wrap .i64 (0 - x31.tmod (65)) > x31.tmod (65) then IntKind.wrap .i64 (0 - x31.tmod (65)) else x31.tmod (65)) > IntKind.wrap .i64 (left - if IntKind.wrap .i64 (0 - 0) > 0 then IntKind.wrap .i64 (0 - 0) else 0))) = true) (h6 : HLwOuAspecK L n (.push (o) 1 16 (List.map celC zs))) : rnd 0 [0, 1, 5, 6, 7] (bodyOf ⟨fnOf, specK, L⟩ (runF ⟨fnOf, specK, L⟩ n) 0 m55b0 (j :: π) (fiSt ps most zs left st o i : St)) = some (.nrm, (.mk [(0, (.lst 1 (List.map celI ps))), (1, (.v (.int .i64 (most)))), (5, (.v (.int .i64 (IntKind.wrap .i64 (IntKind.wrap .i64 (left - if IntKind.wrap .i64 (0 - 0) > 0 then IntKind.wrap .i64 (0 - 0) else 0) - if IntKind.wrap .i64 (0 - 0) > 0 then IntKind.wrap .i64 (0 - 0) else 0))))), (6, (.slc (.mk 0 6 1000) ([61, (j)] ++ (π)) 1 0 (o + 1) false)), (7, (.v (.int .i64 (IntKind.wrap .i64 (i + 2)))))] [((.mk 0 6 1000), (.mk ([61, (j)] ++ (π)) ((List.map celC zs) ++ [[(AV.cpx 0 0)]]) 1 true))] 0)) :=
  rndD_sound (q := [((some 15), (Dec.b true)), ((some 20), (Dec.b true)), ((some 25), (Dec.el [(.v (.int .i64 (x25)))])), ((some 31), (Dec.el [(.v (.int .i64 (x31)))])), ((some 39), (Dec.b true)), ((some 51), (Dec.b true)), ((some 67), Dec.push)]) (by kernel_rfl) (hbLwOuA h0 (hbLwOuA h1 (hcLwOuA h2 (hcLwOuA h3 (hbLwOuA h4 (hbLwOuA h5 (hcLwOuA (c := (.st (st) (st))) rfl (hcLwOuA h6 (hcLwOuA (c := (.st ([60, (j)] ++ (π)) ([60, (j)] ++ (π)))) rfl hnLwOuA)))))))))
theorem flr_1 {L n : Nat} {ps : List Int} {most left k unit size i : Int} {zs : List (Nat × Nat)} {o : Nat} {st π : List Nat} {j : Nat} {x25 : Int} {x31 : Int} (h0 : (decide (IntKind.wrap .i64 (i + 1) < (↑(List.map celI ps).length : Int))) = true) (h1 : (decide ((↑o : Int) < most)) = true) (h2 : HLwOuAspecK L n (.el (List.map celI ps) (.v (.int .i64 (i))) [(.v (.int .i64 (x25)))])) (h3 : HLwOuAspecK L n (.el (List.map celI ps) (.v (.int .i64 (IntKind.wrap .i64 (i + 1)))) [(.v (.int .i64 (x31)))])) (h4 : (decide ((if IntKind.wrap .i64 (0 - x25.tmod (65)) > x25.tmod (65) then IntKind.wrap .i64 (0 - x25.tmod (65)) else x25.tmod (65)) > left)) = true) (h5 : (decide ((if IntKind.wrap .i64 (0 - x31.tmod (65)) > x31.tmod (65) then IntKind.wrap .i64 (0 - x31.tmod (65)) else x31.tmod (65)) > IntKind.wrap .i64 (left - if IntKind.wrap .i64 (0 - 0) > 0 then IntKind.wrap .i64 (0 - 0) else 0))) = false) (h6 : HLwOuAspecK L n (.push (o) 1 16 (List.map celC zs))) : rnd 0 [0, 1, 5, 6, 7] (bodyOf ⟨fnOf, specK, L⟩ (runF ⟨fnOf, specK, L⟩ n) 0 m55b0 (j :: π) (fiSt ps most zs left st o i : St)) = some (.nrm, (.mk [(0, (.lst 1 (List.map celI ps))), (1, (.v (.int .i64 (most)))), (5, (.v (.int .i64 (IntKind.wrap .i64 (IntKind.wrap .i64 (left - if IntKind.wrap .i64 (0 - 0) > 0 then IntKind.wrap .i64 (0 - 0) else 0) - if IntKind.wrap .i64 (0 - x31.tmod (65)) > x31.tmod (65) then IntKind.wrap .i64 (0 - x31.tmod (65)) else x31.tmod (65)))))), (6, (.slc (.mk 0 6 1000) ([60, (j)] ++ (π)) 1 0 (o + 1) false)), (7, (.v (.int .i64 (IntKind.wrap .i64 (i + 2)))))] [((.mk 0 6 1000), (.mk ([60, (j)] ++ (π)) ((List.map celC zs) ++ [[(AV.cpx 0 (fdiv (fofInt (x31.tmod (65))) 4634204016564240384))]]) 1 true))] 0)) :=
  rndD_sound (q := [((some 15), (Dec.b true)), ((some 20), (Dec.b true)), ((some 25), (Dec.el [(.v (.int .i64 (x25)))])), ((some 31), (Dec.el [(.v (.int .i64 (x31)))])), ((some 39), (Dec.b true)), ((some 51), (Dec.b false)), ((some 67), Dec.push)]) (by kernel_rfl) (hbLwOuA h0 (hbLwOuA h1 (hcLwOuA h2 (hcLwOuA h3 (hbLwOuA h4 (hbLwOuA h5 (hcLwOuA (c := (.st (st) (st))) rfl (hcLwOuA h6 (hcLwOuA (c := (.st ([59, (j)] ++ (π)) ([59, (j)] ++ (π)))) rfl hnLwOuA)))))))))
theorem flr_2 {L n : Nat} {ps : List Int} {most left k unit size i : Int} {zs : List (Nat × Nat)} {o : Nat} {st π : List Nat} {j : Nat} {x25 : Int} {x31 : Int} (h0 : (decide (IntKind.wrap .i64 (i + 1) < (↑(List.map celI ps).length : Int))) = true) (h1 : (decide ((↑o : Int) < most)) = true) (h2 : HLwOuAspecK L n (.el (List.map celI ps) (.v (.int .i64 (i))) [(.v (.int .i64 (x25)))])) (h3 : HLwOuAspecK L n (.el (List.map celI ps) (.v (.int .i64 (IntKind.wrap .i64 (i + 1)))) [(.v (.int .i64 (x31)))])) (h4 : (decide ((if IntKind.wrap .i64 (0 - x25.tmod (65)) > x25.tmod (65) then IntKind.wrap .i64 (0 - x25.tmod (65)) else x25.tmod (65)) > left)) = false) (h5 : (decide ((if IntKind.wrap .i64 (0 - x31.tmod (65)) > x31.tmod (65) then IntKind.wrap .i64 (0 - x31.tmod (65)) else x31.tmod (65)) > IntKind.wrap .i64 (left - if IntKind.wrap .i64 (0 - x25.tmod (65)) > x25.tmod (65) then IntKind.wrap .i64 (0 - x25.tmod (65)) else x25.tmod (65)))) = true) (h6 : HLwOuAspecK L n (.push (o) 1 16 (List.map celC zs))) : rnd 0 [0, 1, 5, 6, 7] (bodyOf ⟨fnOf, specK, L⟩ (runF ⟨fnOf, specK, L⟩ n) 0 m55b0 (j :: π) (fiSt ps most zs left st o i : St)) = some (.nrm, (.mk [(0, (.lst 1 (List.map celI ps))), (1, (.v (.int .i64 (most)))), (5, (.v (.int .i64 (IntKind.wrap .i64 (IntKind.wrap .i64 (left - if IntKind.wrap .i64 (0 - x25.tmod (65)) > x25.tmod (65) then IntKind.wrap .i64 (0 - x25.tmod (65)) else x25.tmod (65)) - if IntKind.wrap .i64 (0 - 0) > 0 then IntKind.wrap .i64 (0 - 0) else 0))))), (6, (.slc (.mk 0 6 1000) ([60, (j)] ++ (π)) 1 0 (o + 1) false)), (7, (.v (.int .i64 (IntKind.wrap .i64 (i + 2)))))] [((.mk 0 6 1000), (.mk ([60, (j)] ++ (π)) ((List.map celC zs) ++ [[(AV.cpx (fdiv (fofInt (x25.tmod (65))) 4634204016564240384) 0)]]) 1 true))] 0)) :=
  rndD_sound (q := [((some 15), (Dec.b true)), ((some 20), (Dec.b true)), ((some 25), (Dec.el [(.v (.int .i64 (x25)))])), ((some 31), (Dec.el [(.v (.int .i64 (x31)))])), ((some 39), (Dec.b false)), ((some 51), (Dec.b true)), ((some 67), Dec.push)]) (by kernel_rfl) (hbLwOuA h0 (hbLwOuA h1 (hcLwOuA h2 (hcLwOuA h3 (hbLwOuA h4 (hbLwOuA h5 (hcLwOuA (c := (.st (st) (st))) rfl (hcLwOuA h6 (hcLwOuA (c := (.st ([59, (j)] ++ (π)) ([59, (j)] ++ (π)))) rfl hnLwOuA)))))))))
theorem flr_3 {L n : Nat} {ps : List Int} {most left k unit size i : Int} {zs : List (Nat × Nat)} {o : Nat} {st π : List Nat} {j : Nat} {x25 : Int} {x31 : Int} (h0 : (decide (IntKind.wrap .i64 (i + 1) < (↑(List.map celI ps).length : Int))) = true) (h1 : (decide ((↑o : Int) < most)) = true) (h2 : HLwOuAspecK L n (.el (List.map celI ps) (.v (.int .i64 (i))) [(.v (.int .i64 (x25)))])) (h3 : HLwOuAspecK L n (.el (List.map celI ps) (.v (.int .i64 (IntKind.wrap .i64 (i + 1)))) [(.v (.int .i64 (x31)))])) (h4 : (decide ((if IntKind.wrap .i64 (0 - x25.tmod (65)) > x25.tmod (65) then IntKind.wrap .i64 (0 - x25.tmod (65)) else x25.tmod (65)) > left)) = false) (h5 : (decide ((if IntKind.wrap .i64 (0 - x31.tmod (65)) > x31.tmod (65) then IntKind.wrap .i64 (0 - x31.tmod (65)) else x31.tmod (65)) > IntKind.wrap .i64 (left - if IntKind.wrap .i64 (0 - x25.tmod (65)) > x25.tmod (65) then IntKind.wrap .i64 (0 - x25.tmod (65)) else x25.tmod (65)))) = false) (h6 : HLwOuAspecK L n (.push (o) 1 16 (List.map celC zs))) : rnd 0 [0, 1, 5, 6, 7] (bodyOf ⟨fnOf, specK, L⟩ (runF ⟨fnOf, specK, L⟩ n) 0 m55b0 (j :: π) (fiSt ps most zs left st o i : St)) = some (.nrm, (.mk [(0, (.lst 1 (List.map celI ps))), (1, (.v (.int .i64 (most)))), (5, (.v (.int .i64 (IntKind.wrap .i64 (IntKind.wrap .i64 (left - if IntKind.wrap .i64 (0 - x25.tmod (65)) > x25.tmod (65) then IntKind.wrap .i64 (0 - x25.tmod (65)) else x25.tmod (65)) - if IntKind.wrap .i64 (0 - x31.tmod (65)) > x31.tmod (65) then IntKind.wrap .i64 (0 - x31.tmod (65)) else x31.tmod (65)))))), (6, (.slc (.mk 0 6 1000) ([59, (j)] ++ (π)) 1 0 (o + 1) false)), (7, (.v (.int .i64 (IntKind.wrap .i64 (i + 2)))))] [((.mk 0 6 1000), (.mk ([59, (j)] ++ (π)) ((List.map celC zs) ++ [[(AV.cpx (fdiv (fofInt (x25.tmod (65))) 4634204016564240384) (fdiv (fofInt (x31.tmod (65))) 4634204016564240384))]]) 1 true))] 0)) :=
  rndD_sound (q := [((some 15), (Dec.b true)), ((some 20), (Dec.b true)), ((some 25), (Dec.el [(.v (.int .i64 (x25)))])), ((some 31), (Dec.el [(.v (.int .i64 (x31)))])), ((some 39), (Dec.b false)), ((some 51), (Dec.b false)), ((some 67), Dec.push)]) (by kernel_rfl) (hbLwOuA h0 (hbLwOuA h1 (hcLwOuA h2 (hcLwOuA h3 (hbLwOuA h4 (hbLwOuA h5 (hcLwOuA (c := (.st (st) (st))) rfl (hcLwOuA h6 (hcLwOuA (c := (.st ([58, (j)] ++ (π)) ([58, (j)] ++ (π)))) rfl hnLwOuA)))))))))
theorem flr_4 {L n : Nat} {ps : List Int} {most left k unit size i : Int} {zs : List (Nat × Nat)} {o : Nat} {st π : List Nat} {j : Nat} (h0 : (decide (IntKind.wrap .i64 (i + 1) < (↑(List.map celI ps).length : Int))) = true) (h1 : (decide ((↑o : Int) < most)) = false) : rnd 0 [0, 1, 5, 6, 7] (bodyOf ⟨fnOf, specK, L⟩ (runF ⟨fnOf, specK, L⟩ n) 0 m55b0 (j :: π) (fiSt ps most zs left st o i : St)) = some ((.exit 0), (.mk [(0, (.lst 1 (List.map celI ps))), (1, (.v (.int .i64 (most)))), (5, (.v (.int .i64 (left)))), (6, (.slc (.mk 0 6 1000) (st) 1 0 (o) false)), (7, (.v (.int .i64 (i))))] [((.mk 0 6 1000), (.mk (st) (List.map celC zs) 1 true))] 0)) :=
  rndD_sound (q := [((some 15), (Dec.b true)), ((some 20), (Dec.b false))]) (by kernel_rfl) (hbLwOuA h0 (hbLwOuA h1 hnLwOuA))
theorem flr_5 {L n : Nat} {ps : List Int} {most left k unit size i : Int} {zs : List (Nat × Nat)} {o : Nat} {st π : List Nat} {j : Nat} (h0 : (decide (IntKind.wrap .i64 (i + 1) < (↑(List.map celI ps).length : Int))) = false) : rnd 0 [0, 1, 5, 6, 7] (bodyOf ⟨fnOf, specK, L⟩ (runF ⟨fnOf, specK, L⟩ n) 0 m55b0 (j :: π) (fiSt ps most zs left st o i : St)) = some ((.exit 0), (.mk [(0, (.lst 1 (List.map celI ps))), (1, (.v (.int .i64 (most)))), (5, (.v (.int .i64 (left)))), (6, (.slc (.mk 0 6 1000) (st) 1 0 (o) false)), (7, (.v (.int .i64 (i))))] [((.mk 0 6 1000), (.mk (st) (List.map celC zs) 1 true))] 0)) :=
  rndD_sound (q := [((some 15), (Dec.b false))]) (by kernel_rfl) (hbLwOuA h0 hnLwOuA)
theorem pln_0 {L n : Nat} {ps : List Int} {most left k unit size i : Int} {zs : List (Nat × Nat)} {o : Nat} {st π : List Nat} (h0 : HLwOuAspecK L n (.loop 0 [0, 1, 2, 3, 9, 10] m38b0 [3] (.mk [(0, (.lst 1 (List.map celI ps))), (1, (.v (.int .i64 (unit)))), (2, (.v (.int .i64 (size)))), (3, (.v (.int .i64 (most)))), (9, (.slc (.mk 0 9 1000) [3] 1 0 0 false)), (10, (.v (.int .i64 0)))] [((.mk 0 9 1000), (.mk [3] [] 1 true))] 0) (.exit 0) (.mk [(0, (.lst 1 (List.map celI ps))), (1, (.v (.int .i64 (unit)))), (2, (.v (.int .i64 (size)))), (3, (.v (.int .i64 (most)))), (9, (.slc (.mk 0 9 1000) (st) 1 0 (o) false)), (10, (.v (.int .i64 (i))))] [((.mk 0 9 1000), (.mk (st) (List.map celC zs) 1 true))] 0))) (h1 : HLwOuAspecK L n (.le (o) (List.length (List.map celC zs)))) : den ⟨fnOf, specK, L⟩ (n+1) 38 [.lst 1 (ps.map celI), .int .i64 unit, .int .i64 size, .int .i64 most] = some (.own 1 (List.take (o) (List.map celC zs)) true) :=
  denD_sound (q := [((some 200000), (Dec.loop (.exit 0) (.mk [(0, (.lst 1 (List.map celI ps))), (1, (.v (.int .i64 (unit)))), (2, (.v (.int .i64 (size)))), (3, (.v (.int .i64 (most)))), (9, (.slc (.mk 0 9 1000) (st) 1 0 (o) false)), (10, (.v (.int .i64 (i))))] [((.mk 0 9 1000), (.mk (st) (List.map celC zs) 1 true))] 0)))]) (by kernel_rfl) (hcLwOuA h0 (hcLwOuA (c := (.st (st) (st))) rfl (hcLwOuA h1 hnLwOuA)))
theorem plr_0 {L n : Nat} {ps : List Int} {most left k unit size i : Int} {zs : List (Nat × Nat)} {o : Nat} {st π : List Nat} {j : Nat} {x28 : Int} {x38 : Int} (h0 : (decide (IntKind.wrap .i64 (i + 1) < (↑(List.map celI ps).length : Int))) = true) (h1 : (decide ((↑o : Int) < most)) = true) (h2 : HLwOuAspecK L n (.el (List.map celI ps) (.v (.int .i64 (i))) [(.v (.int .i64 (x28)))])) (h3 : HLwOuAspecK L n (.nz (IntKind.wrap .i64 (IntKind.wrap .i64 (size * unit) + 1)))) (h4 : HLwOuAspecK L n (.el (List.map celI ps) (.v (.int .i64 (IntKind.wrap .i64 (i + 1)))) [(.v (.int .i64 (x38)))])) (h5 : HLwOuAspecK L n (.push (o) 1 16 (List.map celC zs))) : rnd 0 [0, 1, 2, 3, 9, 10] (bodyOf ⟨fnOf, specK, L⟩ (runF ⟨fnOf, specK, L⟩ n) 0 m38b0 (j :: π) (plSt ps unit size most zs st o i : St)) = some (.nrm, (.mk [(0, (.lst 1 (List.map celI ps))), (1, (.v (.int .i64 (unit)))), (2, (.v (.int .i64 (size)))), (3, (.v (.int .i64 (most)))), (9, (.slc (.mk 0 9 1000) ([45, (j)] ++ (π)) 1 0 (o + 1) false)), (10, (.v (.int .i64 (IntKind.wrap .i64 (i + 2)))))] [((.mk 0 9 1000), (.mk ([45, (j)] ++ (π)) ((List.map celC zs) ++ [[(AV.cpx (fdiv (fofInt (x28.tmod (IntKind.wrap .i64 (IntKind.wrap .i64 (size * unit) + 1)))) (fofInt unit)) (fdiv (fofInt (x38.tmod (IntKind.wrap .i64 (IntKind.wrap .i64 (size * unit) + 1)))) (fofInt unit)))]]) 1 true))] 0)) :=
  rndD_sound (q := [((some 18), (Dec.b true)), ((some 23), (Dec.b true)), ((some 28), (Dec.el [(.v (.int .i64 (x28)))])), ((some 34), Dec.div), ((some 38), (Dec.el [(.v (.int .i64 (x38)))])), ((some 44), Dec.div), ((some 58), Dec.push)]) (by kernel_rfl) (hbLwOuA h0 (hbLwOuA h1 (hcLwOuA h2 (hcLwOuA h3 (hcLwOuA h4 (hcLwOuA h3 (hcLwOuA (c := (.st (st) (st))) rfl (hcLwOuA h5 (hcLwOuA (c := (.st ([44, (j)] ++ (π)) ([44, (j)] ++ (π)))) rfl hnLwOuA)))))))))
theorem plr_1 {L n : Nat} {ps : List Int} {most left k unit size i : Int} {zs : List (Nat × Nat)} {o : Nat} {st π : List Nat} {j : Nat} (h0 : (decide (IntKind.wrap .i64 (i + 1) < (↑(List.map celI ps).length : Int))) = true) (h1 : (decide ((↑o : Int) < most)) = false) : rnd 0 [0, 1, 2, 3, 9, 10] (bodyOf ⟨fnOf, specK, L⟩ (runF ⟨fnOf, specK, L⟩ n) 0 m38b0 (j :: π) (plSt ps unit size most zs st o i : St)) = some ((.exit 0), (.mk [(0, (.lst 1 (List.map celI ps))), (1, (.v (.int .i64 (unit)))), (2, (.v (.int .i64 (size)))), (3, (.v (.int .i64 (most)))), (9, (.slc (.mk 0 9 1000) (st) 1 0 (o) false)), (10, (.v (.int .i64 (i))))] [((.mk 0 9 1000), (.mk (st) (List.map celC zs) 1 true))] 0)) :=
  rndD_sound (q := [((some 18), (Dec.b true)), ((some 23), (Dec.b false))]) (by kernel_rfl) (hbLwOuA h0 (hbLwOuA h1 hnLwOuA))
theorem plr_2 {L n : Nat} {ps : List Int} {most left k unit size i : Int} {zs : List (Nat × Nat)} {o : Nat} {st π : List Nat} {j : Nat} (h0 : (decide (IntKind.wrap .i64 (i + 1) < (↑(List.map celI ps).length : Int))) = false) : rnd 0 [0, 1, 2, 3, 9, 10] (bodyOf ⟨fnOf, specK, L⟩ (runF ⟨fnOf, specK, L⟩ n) 0 m38b0 (j :: π) (plSt ps unit size most zs st o i : St)) = some ((.exit 0), (.mk [(0, (.lst 1 (List.map celI ps))), (1, (.v (.int .i64 (unit)))), (2, (.v (.int .i64 (size)))), (3, (.v (.int .i64 (most)))), (9, (.slc (.mk 0 9 1000) (st) 1 0 (o) false)), (10, (.v (.int .i64 (i))))] [((.mk 0 9 1000), (.mk (st) (List.map celC zs) 1 true))] 0)) :=
  rndD_sound (q := [((some 18), (Dec.b false))]) (by kernel_rfl) (hbLwOuA h0 hnLwOuA)
theorem fit_0 {L n : Nat} {rate delay att : Int} {ts es : List Int} {odd a b : Nat} {zs17 : List (Nat × Nat)} {zs20 : List (Nat × Nat)} (h0 : HLwOuAspecK L n (.call 55 [(.lst 1 (List.map celI ts)), (.v (.int .i64 64))] (.own 1 (List.map celC zs17) true))) (h1 : HLwOuAspecK L n (.call 55 [(.lst 1 (List.map celI es)), (.v (.int .i64 64))] (.own 1 (List.map celC zs20) true))) (h2 : ((↑(List.map celC zs17).length : Int) == 0) = true) (h3 : HLwOuAspecK L n (.le (List.length (List.map celC zs20)) (List.length (List.map celC zs20)))) : den ⟨fnOf, specK, L⟩ (n+1) 37 [.agg [.int .i64 rate, .int .i64 delay, .lst 1 (ts.map celI), .lst 1 (es.map celI), .flt odd, .int .i64 att]] = some (.agg [(.v (.int .i64 (IntKind.wrap .i64 (1 + IntKind.wrap .i64 ((IntKind.wrap .u64 rate).tmod (8)))))), (.v (.int .i64 (IntKind.wrap .i64 ((IntKind.wrap .u64 delay).tmod (200))))), (.own 1 [[(AV.cpx 4607182418800017408 0)]] true), (.own 1 (List.take (List.length (List.map celC zs20)) (List.map celC zs20)) true)]) :=
  denD_sound (q := [((some 17), (Dec.call (.own 1 (List.map celC zs17) true))), ((some 20), (Dec.call (.own 1 (List.map celC zs20) true))), ((some 25), (Dec.b true))]) (by kernel_rfl) (hcLwOuA (c := (.st [0] [0])) rfl (hcLwOuA (c := (.st [0] [0])) rfl (hcLwOuA (c := (.st [0] [0])) rfl (hcLwOuA h0 (hcLwOuA (c := (.st [0] [0])) rfl (hcLwOuA h1 (hcLwOuA (c := (.st [20] [20])) rfl (hcLwOuA (c := (.st [20] [20])) rfl (hbLwOuA h2 (hcLwOuA (c := (.st [20] [20])) rfl (hcLwOuA (c := (.st [20] [20])) rfl (hcLwOuA (c := (.st [1] [1])) rfl (hcLwOuA (c := (.st [26] [26])) rfl (hcLwOuA (c := (.le 1 1)) (by simp [Con.holds]) (hcLwOuA (c := (.st [1, 18] [1, 18])) rfl (hcLwOuA h3 hnLwOuA))))))))))))))))
theorem fit_1 {L n : Nat} {rate delay att : Int} {ts es : List Int} {odd a b : Nat} {zs17 : List (Nat × Nat)} {zs20 : List (Nat × Nat)} (h0 : HLwOuAspecK L n (.call 55 [(.lst 1 (List.map celI ts)), (.v (.int .i64 64))] (.own 1 (List.map celC zs17) true))) (h1 : HLwOuAspecK L n (.call 55 [(.lst 1 (List.map celI es)), (.v (.int .i64 64))] (.own 1 (List.map celC zs20) true))) (h2 : ((↑(List.map celC zs17).length : Int) == 0) = false) (h3 : HLwOuAspecK L n (.le (List.length (List.map celC zs17)) (List.length (List.map celC zs17)))) (h4 : HLwOuAspecK L n (.le (List.length (List.map celC zs20)) (List.length (List.map celC zs20)))) : den ⟨fnOf, specK, L⟩ (n+1) 37 [.agg [.int .i64 rate, .int .i64 delay, .lst 1 (ts.map celI), .lst 1 (es.map celI), .flt odd, .int .i64 att]] = some (.agg [(.v (.int .i64 (IntKind.wrap .i64 (1 + IntKind.wrap .i64 ((IntKind.wrap .u64 rate).tmod (8)))))), (.v (.int .i64 (IntKind.wrap .i64 ((IntKind.wrap .u64 delay).tmod (200))))), (.own 1 (List.take (List.length (List.map celC zs17)) (List.map celC zs17)) true), (.own 1 (List.take (List.length (List.map celC zs20)) (List.map celC zs20)) true)]) :=
  denD_sound (q := [((some 17), (Dec.call (.own 1 (List.map celC zs17) true))), ((some 20), (Dec.call (.own 1 (List.map celC zs20) true))), ((some 25), (Dec.b false))]) (by kernel_rfl) (hcLwOuA (c := (.st [0] [0])) rfl (hcLwOuA (c := (.st [0] [0])) rfl (hcLwOuA (c := (.st [0] [0])) rfl (hcLwOuA h0 (hcLwOuA (c := (.st [0] [0])) rfl (hcLwOuA h1 (hcLwOuA (c := (.st [20] [20])) rfl (hcLwOuA (c := (.st [20] [20])) rfl (hbLwOuA h2 (hcLwOuA (c := (.st [20] [20])) rfl (hcLwOuA (c := (.st [1] [1])) rfl (hcLwOuA (c := (.st [1, 15] [1, 15])) rfl (hcLwOuA h3 (hcLwOuA (c := (.st [1, 18] [1, 18])) rfl (hcLwOuA h4 hnLwOuA)))))))))))))))
end Go.Proofs.Ytnphdnokedhhkaa.Fw
namespace Go.Proofs.Ytnphdnokedhhkaa.Fw
open Go Go.RowKit
theorem u64_nonneg (x : Int) : 0 ≤ IntKind.wrap .u64 x := by
  unfold IntKind.wrap
  simp [IntKind.signed, IntKind.bits]
  omega
theorem mx_abs (a : Int) : (if -a > a then -a else a) = (a.natAbs : Int) := by split <;> omega
theorem tmod_small (x : Int) {m : Int} (h : 0 < m) : (x.tmod m).natAbs < m.natAbs := by
  rw [Int.natAbs_tmod]; exact Nat.mod_lt _ (by omega)
theorem tat_at {zs : List (Nat × Nat)} {z : Nat × Nat} {k : Nat} (h : k < zs.length) : (zs ++ [z]).getD k (0, 0) = zs.getD k (0, 0) := by
  rw [getD_apps, if_pos h]
theorem tat_last {zs : List (Nat × Nat)} {z : Nat × Nat} : (zs ++ [z]).getD zs.length (0, 0) = z := by
  rw [getD_apps, if_neg (Nat.lt_irrefl _), Nat.sub_self]; rfl
theorem sumA_app {zs : List (Nat × Nat)} {z : Nat × Nat} : ∀ k, k ≤ zs.length → sumA (tat (zs ++ [z])) k = sumA (tat zs) k
  | 0, _ => rfl
  | k + 1, h => by
    show sumA (tat (zs ++ [z])) k + absI (sxC ((zs ++ [z]).getD k (0, 0))) = sumA (tat zs) k + absI (sxC (zs.getD k (0, 0)))
    rw [sumA_app k (by omega), tat_at (by omega)]
/-- what filter keeps up -/
def okFi (zs : List (Nat × Nat)) (left : Int) : Prop := 0 ≤ left ∧ left + sumA (tat zs) zs.length = 256 ∧ ∀ j, j < zs.length → okTap (zs.getD j (0, 0)) = true
theorem okFi_up {zs : List (Nat × Nat)} {left a b : Int} (h : okFi zs left) (a1 : a.natAbs ≤ 64) (a2 : (a.natAbs : Int) ≤ left) (b1 : b.natAbs ≤ 64) (b2 : (b.natAbs : Int) ≤ left - a.natAbs) :
    okFi (zs ++ [(fdiv (fofInt a) 4634204016564240384, fdiv (fofInt b) 4634204016564240384)]) (left - a.natAbs - b.natAbs) := by
  obtain ⟨h1, h2, h3⟩ := h
  have hz : sixC (a, b) (fdiv (fofInt a) 4634204016564240384, fdiv (fofInt b) 4634204016564240384) := ⟨div64 (by omega), div64 (by omega)⟩
  refine ⟨by omega, ?_, fun j hj => ?_⟩
  · rw [List.length_append, List.length_singleton]
    generalize (fdiv (fofInt a) 4634204016564240384, fdiv (fofInt b) 4634204016564240384) = z at hz ⊢
    have es : sumA (tat (zs ++ [z])) (zs.length + 1) = sumA (tat (zs ++ [z])) zs.length + absI (sxC ((zs ++ [z]).getD zs.length (0, 0))) := rfl
    have ea : absI (a, b) = a.natAbs + b.natAbs := rfl
    rw [es, sumA_app _ (Nat.le_refl _), tat_last, sixC_sx hz, ea]
    omega
  · rw [List.length_append, List.length_singleton] at hj
    by_cases c : j < zs.length
    · rw [tat_at c]; exact h3 j c
    · rw [show j = zs.length by omega, tat_last]
      exact okTap_of hz a1 b1
section
variable {L n : Nat}
theorem filter_den {ps : List Int} (hm : ps.length ≤ 17592186044406) (hL : 100 ≤ L) : ∃ zs left, den ⟨fnOf, specK, L+1⟩ (n+1) 55 [.lst 1 (ps.map celI), .int .i64 64] = some (.own 1 (zs.map celC) true) ∧ zs.length ≤ 64 ∧ okFi zs left := by
  have hl : (ps.map celI).length = ps.length := map_len
  have e0 : IntKind.wrap .i64 (0 - 0) = 0 := by decide
  obtain ⟨s', g1, zs, left, st, i, rfl, hz, hf⟩ := loopJ (P := ⟨fnOf, specK, L+1⟩) (C := runF ⟨fnOf, specK, L+1⟩ n) (L := L) (d := 0) (live := [0, 1, 5, 6, 7]) (π := [4]) (m := m55b0) (A := fiSt ps 64 [] 256 [4] 0 0)
    (fun j s => ∃ zs left st, s = fiSt ps 64 zs left st j ((2 * j : Nat) : Int) ∧ zs.length = j ∧ okFi zs left) (fun s => ∃ zs left st i, s = fiSt ps 64 zs left st zs.length i ∧ zs.length ≤ 64 ∧ okFi zs left) (min (ps.length / 2) 64) (x := .exit 0) (by simp) rfl (by omega) ⟨[], 256, [4], rfl, rfl, by decide, rfl, fun j hj => by simp at hj⟩
    (fun j s hj hs => by
      obtain ⟨zs, left, st, rfl, hz, hf⟩ := hs
      have w1 : IntKind.wrap .i64 (((2 * j : Nat) : Int) + 1) = ((2 * j + 1 : Nat) : Int) := by rw [wrap_id (by omega)]; omega
      have w2 : IntKind.wrap .i64 (((2 * j : Nat) : Int) + 2) = ((2 * (j + 1) : Nat) : Int) := by rw [wrap_id (by omega)]; omega
      have he := elD_map (P := ⟨fnOf, specK, L+1⟩) (C := runF ⟨fnOf, specK, L+1⟩ n) (f := celI) (d := 0) (show 2 * j < ps.length by omega)
      have hf2 := elD_map (P := ⟨fnOf, specK, L+1⟩) (C := runF ⟨fnOf, specK, L+1⟩ n) (f := celI) (d := 0) (show 2 * j + 1 < ps.length by omega)
      have hp : Con.holds ⟨fnOf, specK, L+1⟩ (runF ⟨fnOf, specK, L+1⟩ n) (.push j 1 16 (zs.map celC)) := push_ok (by rw [map_len, hz]) (by simp only [most]; omega)
      have hd : decide (IntKind.wrap .i64 (((2 * j : Nat) : Int) + 1) < ((ps.map celI).length : Int)) = true := by rw [w1, hl]; exact dT (by omega)
      have hd2 : decide ((j : Int) < (64 : Int)) = true := dT (by omega)
      have hl0 : left ≤ 256 := by obtain ⟨_, h2, _⟩ := hf; omega
      have hl1 : 0 ≤ left := hf.1
      generalize ps.getD (2 * j) 0 = x at he
      generalize ps.getD (2 * j + 1) 0 = y at hf2
      have ax := tmod_small x (m := 65) (by decide)
      have ay := tmod_small y (m := 65) (by decide)
      rw [← w1] at hf2
      have F0 := @flr_0 (L+1) n ps 64 left 0 0 0 ((2 * j : Nat) : Int) zs j st [4] j x y hd hd2 he hf2
      have F1 := @flr_1 (L+1) n ps 64 left 0 0 0 ((2 * j : Nat) : Int) zs j st [4] j x y hd hd2 he hf2
      have F2 := @flr_2 (L+1) n ps 64 left 0 0 0 ((2 * j : Nat) : Int) zs j st [4] j x y hd hd2 he hf2
      have F3 := @flr_3 (L+1) n ps 64 left 0 0 0 ((2 * j : Nat) : Int) zs j st [4] j x y hd hd2 he hf2
      generalize x.tmod 65 = a at *
      generalize y.tmod 65 = b at *
      have a1 : a.natAbs ≤ 64 := by omega
      have b1 : b.natAbs ≤ 64 := by omega
      have ea : IntKind.wrap .i64 (0 - a) = -a := by rw [wrap_id (by omega)]; omega
      have eb : IntKind.wrap .i64 (0 - b) = -b := by rw [wrap_id (by omega)]; omega
      have key : ∀ (a' b' : Int) (σ : List Nat), a'.natAbs ≤ 64 → (a'.natAbs : Int) ≤ left → b'.natAbs ≤ 64 → (b'.natAbs : Int) ≤ left - a'.natAbs →
          ∃ zs1 left1 st1, fiSt ps 64 (zs ++ [(fdiv (fofInt a') 4634204016564240384, fdiv (fofInt b') 4634204016564240384)]) (left - a'.natAbs - b'.natAbs) σ (j + 1) ((2 * (j + 1) : Nat) : Int) = fiSt ps 64 zs1 left1 st1 (j + 1) ((2 * (j + 1) : Nat) : Int) ∧ zs1.length = j + 1 ∧ okFi zs1 left1 := fun a' b' σ q1 q2 q3 q4 =>
        ⟨_, _, _, rfl, by rw [List.length_append, List.length_singleton, hz], okFi_up hf q1 q2 q3 q4⟩
      have wl : ∀ c : Int, c.natAbs ≤ 1000 → IntKind.wrap .i64 c = c := fun c hc => wrap_id (by omega)
      by_cases c1 : (a.natAbs : Int) > left
      · by_cases c2 : (b.natAbs : Int) > left
        · have := F0 (by rw [ea, mx_abs]; exact dT c1) (by rw [eb, mx_abs, e0, ite_self, Int.sub_zero, wl _ (by omega)]; exact dT c2) hp
          rw [e0, ite_self, Int.sub_zero, Int.sub_zero, wl left (by omega), wl left (by omega), w2] at this
          obtain ⟨zs1, left1, st1, k1, k2, k3⟩ := key 0 0 _ (by decide) hl1 (by decide) (by simpa using hl1)
          refine ⟨_, this, zs1, left1, st1, ?_, k2, k3⟩
          rw [← k1]
          unfold fiSt
          rw [List.map_append, show left - ((0 : Int).natAbs : Int) - ((0 : Int).natAbs : Int) = left by simp]
          rfl
        · have := F1 (by rw [ea, mx_abs]; exact dT c1) (by rw [eb, mx_abs, e0, ite_self, Int.sub_zero, wl _ (by omega)]; exact dF c2) hp
          rw [e0, ite_self, Int.sub_zero, wl left (by omega), eb, mx_abs, wl _ (by omega), w2] at this
          obtain ⟨zs1, left1, st1, k1, k2, k3⟩ := key 0 b _ (by decide) hl1 b1 (by simp only [Int.natAbs_zero]; omega)
          refine ⟨_, this, zs1, left1, st1, ?_, k2, k3⟩
          rw [← k1]
          unfold fiSt
          rw [List.map_append, show left - ((0 : Int).natAbs : Int) - (b.natAbs : Int) = left - b.natAbs by simp]
          rfl
      · by_cases c2 : (b.natAbs : Int) > left - a.natAbs
        · have := F2 (by rw [ea, mx_abs]; exact dF c1) (by rw [eb, mx_abs, ea, mx_abs, wl _ (by omega)]; exact dT c2) hp
          rw [ea, mx_abs, e0, ite_self, Int.sub_zero, wl (left - a.natAbs) (by omega), wl (left - a.natAbs) (by omega), w2] at this
          obtain ⟨zs1, left1, st1, k1, k2, k3⟩ := key a 0 _ a1 (by omega) (by decide) (by simp only [Int.natAbs_zero]; omega)
          refine ⟨_, this, zs1, left1, st1, ?_, k2, k3⟩
          rw [← k1]
          unfold fiSt
          rw [List.map_append, show left - (a.natAbs : Int) - ((0 : Int).natAbs : Int) = left - a.natAbs by simp]
          rfl
        · have := F3 (by rw [ea, mx_abs]; exact dF c1) (by rw [eb, mx_abs, ea, mx_abs, wl _ (by omega)]; exact dF c2) hp
          rw [ea, mx_abs, eb, mx_abs, wl (left - a.natAbs) (by omega), wl _ (by omega), w2] at this
          obtain ⟨zs1, left1, st1, k1, k2, k3⟩ := key a b _ a1 (by omega) b1 (by omega)
          refine ⟨_, this, zs1, left1, st1, ?_, k2, k3⟩
          rw [← k1]
          unfold fiSt
          rw [List.map_append]
          rfl)
    (fun s hs => by
      obtain ⟨zs, left, st, rfl, hz, hf⟩ := hs
      have w1 : IntKind.wrap .i64 (((2 * min (ps.length / 2) 64 : Nat) : Int) + 1) = ((2 * min (ps.length / 2) 64 + 1 : Nat) : Int) := by rw [wrap_id (by omega)]; omega
      have ho : fiSt ps 64 zs left st (min (ps.length / 2) 64) ((2 * min (ps.length / 2) 64 : Nat) : Int) = fiSt ps 64 zs left st zs.length ((2 * min (ps.length / 2) 64 : Nat) : Int) := by rw [hz]
      by_cases c : ps.length / 2 < 64 ∧ True
      · exact ⟨_, @flr_5 (L+1) n ps 64 left 0 0 0 ((2 * min (ps.length / 2) 64 : Nat) : Int) zs (min (ps.length / 2) 64) st [4] (min (ps.length / 2) 64) (by rw [w1, hl]; exact dF (by omega)), zs, left, st, _, ho, by omega, hf⟩
      · by_cases c2 : 2 * min (ps.length / 2) 64 + 1 < ps.length
        · exact ⟨_, @flr_4 (L+1) n ps 64 left 0 0 0 ((2 * min (ps.length / 2) 64 : Nat) : Int) zs (min (ps.length / 2) 64) st [4] (min (ps.length / 2) 64) (by rw [w1, hl]; exact dT (by omega)) (dF (by omega)), zs, left, st, _, ho, by omega, hf⟩
        · exact ⟨_, @flr_5 (L+1) n ps 64 left 0 0 0 ((2 * min (ps.length / 2) 64 : Nat) : Int) zs (min (ps.length / 2) 64) st [4] (min (ps.length / 2) 64) (by rw [w1, hl]; exact dF (by omega)), zs, left, st, _, ho, by omega, hf⟩)
  have hle : Con.holds ⟨fnOf, specK, L+1⟩ (runF ⟨fnOf, specK, L+1⟩ n) (.le zs.length (List.length (zs.map celC))) := by show _ ≤ _; rw [map_len]; exact Nat.le_refl _
  have := @fil_0 (L+1) n ps 64 left 0 0 0 i zs zs.length st [] g1 hle
  rw [tkMap rfl] at this
  exact ⟨zs, left, this, hz, hf⟩
theorem chkT_zero {r d : Int} {ts es : List (Nat × Nat)} (h1 : 1 ≤ r) (h2 : r ≤ 8) (h3 : 0 ≤ d) (h4 : d ≤ 65536) (h5 : tapsF ts = true) (h6 : es.length = 0 ∨ tapsF es = true) : chkT r d ts es = 0 := by
  unfold chkT
  rw [if_neg (by omega), if_pos ⟨h5, h6⟩]
theorem okFi_taps {zs : List (Nat × Nat)} {left : Int} (h : okFi zs left) (hz : zs.length ≤ 64) (h0 : 0 < zs.length) : tapsF zs = true := by
  obtain ⟨h1, h2, h3⟩ := h
  exact tapsF_of h0 hz h3 (by omega)
theorem one_taps : tapsF [(4607182418800017408, 0)] = true := by decide +kernel
/-- a strait that may be -/
theorem fit_den {rate delay att : Int} {ts es : List Int} {odd : Nat} (m1 : ts.length ≤ 17592186044406) (m2 : es.length ≤ 17592186044406) (hL : 100 ≤ L) :
    ∃ (r d : Int) (ta ea : List (Nat × Nat)), den ⟨fnOf, specK, L+1⟩ (n+2) 37 [.agg [.int .i64 rate, .int .i64 delay, .lst 1 (ts.map celI), .lst 1 (es.map celI), .flt odd, .int .i64 att]] = some (.agg [.int .i64 r, .int .i64 d, .own 1 (ta.map celC) true, .own 1 (ea.map celC) true]) ∧ chkT r d ta ea = 0 ∧ d < 200 := by
  obtain ⟨z1, l1, d1, k1, f1⟩ := @filter_den L n ts m1 hL
  obtain ⟨z2, l2, d2, k2, f2⟩ := @filter_den L n es m2 hL
  have c1 := call_den d1
  have c2 := call_den d2
  have hr0 := Int.tmod_nonneg 8 (u64_nonneg rate)
  have hr1 := Int.tmod_lt_of_pos (IntKind.wrap .u64 rate) (b := 8) (by decide)
  have hd0 := Int.tmod_nonneg 200 (u64_nonneg delay)
  have hd1 := Int.tmod_lt_of_pos (IntKind.wrap .u64 delay) (b := 200) (by decide)
  have leq : ∀ l : List (Nat × Nat), Con.holds ⟨fnOf, specK, L+1⟩ (runF ⟨fnOf, specK, L+1⟩ (n+1)) (.le (List.length (l.map celC)) (List.length (l.map celC))) := fun l => by show _ ≤ _; exact Nat.le_refl _
  have tl : ∀ l : List (Nat × Nat), List.take (List.length (l.map celC)) (l.map celC) = l.map celC := fun l => List.take_length
  have he : z2.length = 0 ∨ tapsF z2 = true := by
    by_cases c : z2.length = 0
    · exact .inl c
    · exact .inr (okFi_taps f2 k2 (by omega))
  generalize hR : (IntKind.wrap .u64 rate).tmod 8 = R at *
  generalize hD : (IntKind.wrap .u64 delay).tmod 200 = D at *
  have w1 : IntKind.wrap .i64 R = R := wrap_id (by omega)
  have w2 : IntKind.wrap .i64 (1 + R) = 1 + R := wrap_id (by omega)
  have w3 : IntKind.wrap .i64 D = D := wrap_id (by omega)
  by_cases c : z1.length = 0
  · have := @fit_0 (L+1) (n+1) rate delay att ts es odd 0 0 z1 z2 c1 c2 (by rw [map_len, c]; rfl) (leq _)
    rw [hR, hD, w1, w2, w3, tl] at this
    exact ⟨1 + R, D, [(4607182418800017408, 0)], z2, this, chkT_zero (by omega) (by omega) (by omega) (by omega) one_taps he, hd1⟩
  · have := @fit_1 (L+1) (n+1) rate delay att ts es odd 0 0 z1 z2 c1 c2 (by rw [map_len]; exact beq_eq_false_iff_ne.2 (by omega)) (leq _) (leq _)
    rw [hR, hD, w1, w2, w3, tl, tl] at this
    exact ⟨1 + R, D, z1, z2, this, chkT_zero (by omega) (by omega) (by omega) (by omega) (okFi_taps f1 k1 (by omega)) he, hd1⟩
/-- a number of a plain row: its whole numbers; 'q' divides them -/
def plC (q : Int) (M : Nat) (z : Nat × Nat) : Prop := ∃ m : CI, sixC (m.1 * q, m.2 * q) z ∧ (m.1 * q).natAbs ≤ M ∧ (m.2 * q).natAbs ≤ M
theorem div1 {a : Int} (h : a.natAbs < 2 ^ 40) : six (a * 64) (fdiv (fofInt a) 4607182418800017408) := by
  obtain ⟨f1, f2⟩ := fofInt_exact (n := a) (by omega)
  have hr : Ieee.double.read 4607182418800017408 = .number false (2 ^ 52) ((0 : Nat) - 52 : Int) := by decide
  have hst : stout (fofInt a) := by
    unfold stout
    by_cases h0 : a = 0
    · left; rw [f2, h0, Int.zero_mul]
    · right
      rw [f2, Int.natAbs_mul, Int.natAbs_pow]
      calc 2 ^ 600 ≤ 1 * 2 ^ 1074 := by rw [Nat.one_mul]; exact Nat.pow_le_pow_right (by decide) (by decide)
        _ ≤ a.natAbs * 2 ^ 1074 := Nat.mul_le_mul_right _ (by omega)
  obtain ⟨g1, g2⟩ := fdiv_pow2 (k := 0) (V := a * 2 ^ 1074) f1 hst hr (by decide) (by rw [f2]; simp) (fits_stepI (by omega))
  refine ⟨g1, ?_⟩
  rw [g2, show (64 : Int) = 2 ^ 6 from rfl, Int.mul_assoc, ← Int.pow_add]
theorem plain10 {ps : List Int} {unit size mst q : Int} {mo : Nat} (hu : (unit = 64 ∧ q = 1) ∨ (unit = 1 ∧ q = 64)) (hs : 0 < size ∧ size ≤ 128) (hmo : mst = (mo : Int)) (hmo2 : mo ≤ 100000) (hm : ps.length ≤ 17592186044406) (hL : 100000 ≤ L) :
    ∃ zs : List (Nat × Nat), den ⟨fnOf, specK, L+1⟩ (n+1) 38 [.lst 1 (ps.map celI), .int .i64 unit, .int .i64 size, .int .i64 mst] = some (.own 1 (zs.map celC) true) ∧ zs.length ≤ mo ∧ ∀ j, j < zs.length → plC q (size.toNat * 64) (zs.getD j (0, 0)) := by
  have hl : (ps.map celI).length = ps.length := map_len
  subst hmo
  have hmul : size * unit = size * 64 ∨ size * unit = size := by rcases hu with ⟨rfl, _⟩ | ⟨rfl, _⟩ <;> omega
  have ws : IntKind.wrap .i64 (size * unit) = size * unit := wrap_id (by omega)
  have ws2 : IntKind.wrap .i64 (size * unit + 1) = size * unit + 1 := wrap_id (by omega)
  obtain ⟨s', g1, zs, st, i, rfl, hz, hf⟩ := loopJ (P := ⟨fnOf, specK, L+1⟩) (C := runF ⟨fnOf, specK, L+1⟩ n) (L := L) (d := 0) (live := [0, 1, 2, 3, 9, 10]) (π := [3]) (m := m38b0) (A := plSt ps unit size mo [] [3] 0 0)
    (fun j s => ∃ (zs : List (Nat × Nat)) (st : List Nat), s = plSt ps unit size mo zs st j ((2 * j : Nat) : Int) ∧ zs.length = j ∧ ∀ k, k < zs.length → plC q (size.toNat * 64) (zs.getD k (0, 0)))
    (fun s => ∃ (zs : List (Nat × Nat)) (st : List Nat) (i : Int), s = plSt ps unit size mo zs st zs.length i ∧ zs.length ≤ mo ∧ ∀ k, k < zs.length → plC q (size.toNat * 64) (zs.getD k (0, 0))) (min (ps.length / 2) mo) (x := .exit 0) (by simp) rfl (by omega) ⟨[], [3], rfl, rfl, fun j hj => by simp at hj⟩
    (fun j s hj hs => by
      obtain ⟨zs, st, rfl, hz, hf⟩ := hs
      have w1 : IntKind.wrap .i64 (((2 * j : Nat) : Int) + 1) = ((2 * j + 1 : Nat) : Int) := by rw [wrap_id (by omega)]; omega
      have w2 : IntKind.wrap .i64 (((2 * j : Nat) : Int) + 2) = ((2 * (j + 1) : Nat) : Int) := by rw [wrap_id (by omega)]; omega
      have he := elD_map (P := ⟨fnOf, specK, L+1⟩) (C := runF ⟨fnOf, specK, L+1⟩ n) (f := celI) (d := 0) (show 2 * j < ps.length by omega)
      have hf2 := elD_map (P := ⟨fnOf, specK, L+1⟩) (C := runF ⟨fnOf, specK, L+1⟩ n) (f := celI) (d := 0) (show 2 * j + 1 < ps.length by omega)
      have hp : Con.holds ⟨fnOf, specK, L+1⟩ (runF ⟨fnOf, specK, L+1⟩ n) (.push j 1 16 (zs.map celC)) := push_ok (by rw [map_len, hz]) (by simp only [most]; omega)
      have hd : decide (IntKind.wrap .i64 (((2 * j : Nat) : Int) + 1) < ((ps.map celI).length : Int)) = true := by rw [w1, hl]; exact dT (by omega)
      have hnz : Con.holds ⟨fnOf, specK, L+1⟩ (runF ⟨fnOf, specK, L+1⟩ n) (.nz (IntKind.wrap .i64 (IntKind.wrap .i64 (size * unit) + 1))) := by
        show _ ≠ _; rw [ws, ws2]; omega
      generalize ps.getD (2 * j) 0 = x at he
      generalize ps.getD (2 * j + 1) 0 = y at hf2
      rw [← w1] at hf2
      have := @plr_0 (L+1) n ps mo 0 0 unit size ((2 * j : Nat) : Int) zs j st [3] j x y hd (dT (by omega)) he hnz hf2 hp
      rw [w2] at this
      refine ⟨_, this, zs ++ [((fdiv (fofInt (x.tmod (IntKind.wrap .i64 (IntKind.wrap .i64 (size * unit) + 1)))) (fofInt unit)), (fdiv (fofInt (y.tmod (IntKind.wrap .i64 (IntKind.wrap .i64 (size * unit) + 1)))) (fofInt unit)))], [45, j] ++ [3], ?_, ?_, fun k hk => ?_⟩
      · unfold plSt
        rw [List.map_append]
        rfl
      · rw [List.length_append, List.length_singleton, hz]
      · rw [List.length_append, List.length_singleton] at hk
        by_cases c : k < zs.length
        · rw [tat_at c]; exact hf k c
        · rw [show k = zs.length by omega, tat_last, ws, ws2]
          have ax := tmod_small x (m := size * unit + 1) (by omega)
          have ay := tmod_small y (m := size * unit + 1) (by omega)
          generalize x.tmod (size * unit + 1) = a at *
          generalize y.tmod (size * unit + 1) = b at *
          rcases hu with ⟨rfl, rfl⟩ | ⟨rfl, rfl⟩
          · have e : fofInt 64 = 4634204016564240384 := by kernel_rfl
            rw [e]
            refine ⟨(a, b), ⟨?_, ?_⟩, ?_, ?_⟩
            · show six (a * 1) _; rw [Int.mul_one]; exact div64 (by omega)
            · show six (b * 1) _; rw [Int.mul_one]; exact div64 (by omega)
            · show (a * 1).natAbs ≤ _; omega
            · show (b * 1).natAbs ≤ _; omega
          · have e : fofInt 1 = 4607182418800017408 := by kernel_rfl
            rw [e]
            exact ⟨(a, b), ⟨div1 (by omega), div1 (by omega)⟩, by show (a * 64).natAbs ≤ _; omega, by show (b * 64).natAbs ≤ _; omega⟩)
    (fun s hs => by
      obtain ⟨zs, st, rfl, hz, hf⟩ := hs
      have w1 : IntKind.wrap .i64 (((2 * min (ps.length / 2) mo : Nat) : Int) + 1) = ((2 * min (ps.length / 2) mo + 1 : Nat) : Int) := by rw [wrap_id (by omega)]; omega
      have ho : plSt ps unit size mo zs st (min (ps.length / 2) mo) ((2 * min (ps.length / 2) mo : Nat) : Int) = plSt ps unit size mo zs st zs.length ((2 * min (ps.length / 2) mo : Nat) : Int) := by rw [hz]
      by_cases c2 : 2 * min (ps.length / 2) mo + 1 < ps.length
      · exact ⟨_, @plr_1 (L+1) n ps mo 0 0 unit size ((2 * min (ps.length / 2) mo : Nat) : Int) zs (min (ps.length / 2) mo) st [3] (min (ps.length / 2) mo) (by rw [w1, hl]; exact dT (by omega)) (dF (by omega)), zs, st, _, ho, by omega, hf⟩
      · exact ⟨_, @plr_2 (L+1) n ps mo 0 0 unit size ((2 * min (ps.length / 2) mo : Nat) : Int) zs (min (ps.length / 2) mo) st [3] (min (ps.length / 2) mo) (by rw [w1, hl]; exact dF (by omega)), zs, st, _, ho, by omega, hf⟩)
  have hle : Con.holds ⟨fnOf, specK, L+1⟩ (runF ⟨fnOf, specK, L+1⟩ n) (.le zs.length (List.length (zs.map celC))) := by show _ ≤ _; rw [map_len]; exact Nat.le_refl _
  have := @pln_0 (L+1) n ps mo 0 0 unit size i zs zs.length st [] g1 hle
  rw [tkMap rfl] at this
  exact ⟨zs, this, hz, hf⟩
end
end Go.Proofs.Ytnphdnokedhhkaa.Fw
namespace Go.Proofs.Ytnphdnokedhhkaa.Fw
open Go Go.RowKit
def newG1 : FuncId → Option (List AV → Option AV)
  | 19 => some (fun avs => pasSem false (avs.map nzA))
  | _ => none
theorem spec_G1 : SpecOk Try.prog ⟨fnOf, fun f => match newG1 f with | some g => some g | none => specX f, 0⟩ :=
  spec_adds spec_x (fun L => fnsOk _ _) follows newG1 fun f g h => by
    unfold newG1 at h
    split at h
    · cases h
      refine ⟨⟨_, Try.func19, ne_of_beq_false (by kernel_rfl), by kernel_rfl⟩, fun avs r h => ?_⟩
      have hw := wi_nz avs
      obtain ⟨rate, delay, nn, ts, es, xs, vs, he, h1, h2, h3, h4, rfl⟩ := pasSem_is h
      rw [he] at hw
      exact ⟨_, _, _, _, hw, (@pass_both 70000 0 rate delay nn ts es xs vs (Nat.le_refl _) h1 h2 h3 h4).1, pas_wk _ _⟩
    · cases h
def newG5 : FuncId → Option (List AV → Option AV)
  | 37 => some (fun avs => den ⟨fnOf, specK, 200001⟩ 2 37 avs)
  | 38 => some (fun avs => den ⟨fnOf, specK, 200001⟩ 1 38 avs)
  | 39 => some (fun avs => den ⟨fnOf, specK, 200001⟩ 2 39 avs)
  | 21 => some (fun avs => den ⟨fnOf, specK, 20000000000001⟩ 1 21 (avs.map nzA))
  | 14 => some (fun avs => den ⟨fnOf, specK, 70001⟩ 2 14 (avs.map nzA))
  | _ => none
theorem spec_G5 : SpecOk Try.prog ⟨fnOf, fun f => match newG5 f with | some g => some g | none => specK f, 0⟩ :=
  spec_adds spec_k (fun L => fnsOk _ _) follows newG5 fun f g h => by
    unfold newG5 at h
    split at h
    · cases h
      refine ⟨⟨_, Try.func37, ne_of_beq_false (by kernel_rfl), by kernel_rfl⟩, fun avs r h => ?_⟩
      exact toldZ (P := ⟨fnOf, specK, 0⟩) h (WkT.refl _)
    · cases h
      refine ⟨⟨_, Try.func38, ne_of_beq_false (by kernel_rfl), by kernel_rfl⟩, fun avs r h => ?_⟩
      exact toldZ (P := ⟨fnOf, specK, 0⟩) h (WkT.refl _)
    · cases h
      refine ⟨⟨_, Try.func39, ne_of_beq_false (by kernel_rfl), by kernel_rfl⟩, fun avs r h => ?_⟩
      exact toldZ (P := ⟨fnOf, specK, 0⟩) h (WkT.refl _)
    · cases h
      refine ⟨⟨_, Try.func21, ne_of_beq_false (by kernel_rfl), by kernel_rfl⟩, fun avs r h => ?_⟩
      exact ⟨_, _, _, _, wi_nz avs, h, WkT.refl _⟩
    · cases h
      refine ⟨⟨_, Try.func14, ne_of_beq_false (by kernel_rfl), by kernel_rfl⟩, fun avs r h => ?_⟩
      exact ⟨_, _, _, _, wi_nz avs, h, WkT.refl _⟩
    · cases h
def newG6 : FuncId → Option (List AV → Option AV)
  | 26 => some (fun avs => den ⟨fnOf, specZ, 70001⟩ 2 26 (avs.map nzA))
  | 28 => some (fun avs => den ⟨fnOf, specZ, 70001⟩ 2 28 (avs.map nzA))
  | _ => none
theorem spec_G6 : SpecOk Try.prog ⟨fnOf, fun f => match newG6 f with | some g => some g | none => specZ f, 0⟩ :=
  spec_adds spec_z (fun L => fnsOk _ _) follows newG6 fun f g h => by
    unfold newG6 at h
    split at h
    · cases h
      refine ⟨⟨_, Try.func26, ne_of_beq_false (by kernel_rfl), by kernel_rfl⟩, fun avs r h => ?_⟩
      exact ⟨_, _, _, _, wi_nz avs, h, WkT.refl _⟩
    · cases h
      refine ⟨⟨_, Try.func28, ne_of_beq_false (by kernel_rfl), by kernel_rfl⟩, fun avs r h => ?_⟩
      exact ⟨_, _, _, _, wi_nz avs, h, WkT.refl _⟩
    · cases h
def newG : FuncId → Option (List AV → Option AV)
  | 22 => some (fun avs => chkSem (avs.map nzA))
  | 35 => some wkSem
  | 19 => some (fun avs => pasSem false (avs.map nzA))
  | 37 => some (fun avs => den ⟨fnOf, specK, 200001⟩ 2 37 avs)
  | 38 => some (fun avs => den ⟨fnOf, specK, 200001⟩ 1 38 avs)
  | 39 => some (fun avs => den ⟨fnOf, specK, 200001⟩ 2 39 avs)
  | 21 => some (fun avs => den ⟨fnOf, specK, 20000000000001⟩ 1 21 (avs.map nzA))
  | 26 => some (fun avs => den ⟨fnOf, specZ, 70001⟩ 2 26 (avs.map nzA))
  | _ => none
def specG : FuncId → Option (List AV → Option AV) := fun f => match newG f with | some g => some g | none => specK f
theorem spec_g : SpecOk Try.prog ⟨fnOf, specG, 0⟩ := by
  intro f g h
  have h : (match newG f with | some g => some g | none => specK f) = some g := h
  unfold newG at h
  split at h
  · rename_i g' hq
    split at hq
    · cases hq; cases h; exact spec_v 22 _ rfl
    · cases hq; cases h; exact spec_vw 35 _ rfl
    · cases hq; cases h; exact spec_G1 19 _ rfl
    · cases hq; cases h; exact spec_G5 37 _ rfl
    · cases hq; cases h; exact spec_G5 38 _ rfl
    · cases hq; cases h; exact spec_G5 39 _ rfl
    · cases hq; cases h; exact spec_G5 21 _ rfl
    · cases hq; cases h; exact spec_G6 26 _ rfl
    · cases hq
  · exact spec_k f g h
theorem spec_gL (L : Nat) : SpecOk Try.prog ⟨fnOf, specG, L⟩ := fun f g h => spec_g f g h
section
variable {P : Prog} {C : Caller}
theorem fit_toldG (hp : P.spec = specG) {rate delay att : Int} {ts es : List Int} {odd : Nat} (m1 : ts.length ≤ 17592186044406) (m2 : es.length ≤ 17592186044406) :
    ∃ (r d : Int) (ta ea : List (Nat × Nat)), Con.holds P C (.spec 37 [.agg [.int .i64 rate, .int .i64 delay, .lst 1 (ts.map celI), .lst 1 (es.map celI), .flt odd, .int .i64 att]] (.agg [.int .i64 r, .int .i64 d, .own 1 (ta.map celC) true, .own 1 (ea.map celC) true])) ∧ chkT r d ta ea = 0 ∧ d < 200 := by
  obtain ⟨r, d, ta, ea, h, h2, h3⟩ := @fit_den 200000 0 rate delay att ts es odd m1 m2 (by omega)
  exact ⟨r, d, ta, ea, spec_is (g := fun avs => den ⟨fnOf, specK, 200001⟩ 2 37 avs) (by rw [hp]; rfl) h, h2, h3⟩
theorem plain_toldG (hp : P.spec = specG) {ps : List Int} {unit size mst q : Int} {mo : Nat} (hu : (unit = 64 ∧ q = 1) ∨ (unit = 1 ∧ q = 64)) (hs : 0 < size ∧ size ≤ 128) (hmo : mst = (mo : Int)) (hmo2 : mo ≤ 100000) (hm : ps.length ≤ 17592186044406) :
    ∃ zs : List (Nat × Nat), Con.holds P C (.spec 38 [.lst 1 (ps.map celI), .int .i64 unit, .int .i64 size, .int .i64 mst] (.own 1 (zs.map celC) true)) ∧ zs.length ≤ mo ∧ ∀ j, j < zs.length → plC q (size.toNat * 64) (zs.getD j (0, 0)) := by
  obtain ⟨zs, h, h2, h3⟩ := @plain10 200000 0 ps unit size mst q mo hu hs hmo hmo2 hm (by omega)
  exact ⟨zs, spec_is (g := fun avs => den ⟨fnOf, specK, 200001⟩ 1 38 avs) (by rw [hp]; rfl) h, h2, h3⟩
theorem pasQ_ok {e : Int} {l : List (Nat × Nat)} (h : e = 0) : pasQ e l = .tup [.own 1 (l.map celC) true, .int .i64 0] := by
  unfold pasQ; rw [if_pos h, h]
theorem passE_zero {rate delay nn : Int} {ts es xs vs : List (Nat × Nat)} (h : chkT rate delay ts es = 0) (h1 : 0 ≤ nn) (h2 : nn ≤ 65536) (h3 : xs.length ≤ 65536) (h4 : vs.length ≤ 65536) (h5 : rowF xs = true) (h6 : rowF vs = true) : passE rate delay nn ts es xs vs = 0 := by
  unfold passE
  rw [if_neg (by simp [h]), if_neg (by omega), if_pos ⟨h5, h6⟩]
theorem taps_short {rate delay : Int} {ts es : List (Nat × Nat)} (h : chkT rate delay ts es = 0) : shortL ts ∧ shortL es := by
  obtain ⟨_, ⟨_, h2, _⟩, h3, _⟩ := chk_parts h
  unfold shortL; omega
/-- what comes through, told: 'a', 'b', 'c': a list or none -/
theorem pass_toldG (hp : P.spec = specG) {rate delay nn : Int} {ts es xs vs : List (Nat × Nat)} {a b c : AV} (ha : nz1 a = .lst 1 (es.map celC)) (hb : nzA b = .lst 1 (xs.map celC)) (hc : nzA c = .lst 1 (vs.map celC)) (h : chkT rate delay ts es = 0) (h1 : 0 ≤ nn) (h2 : nn ≤ 65536) (h3 : xs.length ≤ 65536) (h4 : vs.length ≤ 65536) (h5 : rowF xs = true) (h6 : rowF vs = true) :
    Con.holds P C (.spec 19 [.agg [.int .i64 rate, .int .i64 delay, .lst 1 (ts.map celC), a], b, c, .int .i64 nn] (.tup [.own 1 ((passP rate delay nn ts es xs vs).map celC) true, .int .i64 0])) := by
  obtain ⟨t1, t2⟩ := taps_short h
  refine spec_is (g := fun avs => pasSem false (avs.map nzA)) (by rw [hp]; rfl) ?_
  have e : List.map nzA [.agg [.int .i64 rate, .int .i64 delay, .lst 1 (ts.map celC), a], b, c, .int .i64 nn] = [.agg [.int .i64 rate, .int .i64 delay, .lst 1 (ts.map celC), .lst 1 (es.map celC)], .lst 1 (xs.map celC), .lst 1 (vs.map celC), .int .i64 nn] := by
    show [AV.agg [_, _, _, nz1 a], nzA b, nzA c, _] = _
    rw [ha, hb, hc]; rfl
  show pasSem false (List.map nzA _) = _
  rw [e, pasSem_at false t1 t2 (by unfold shortL; omega) (by unfold shortL; omega), pasQ_ok (passE_zero h h1 h2 h3 h4 h5 h6)]
  rfl
end
theorem rowF_nil : rowF [] = true := rfl
theorem rowF_plC {q : Int} {M : Nat} {zs : List (Nat × Nat)} (hM : M ≤ 8192) (h : ∀ j, j < zs.length → plC q M (zs.getD j (0, 0))) : rowF zs = true :=
  rowF_of fun i hi => by
    obtain ⟨m, h1, h2, h3⟩ := h i hi
    exact ⟨_, h1, Nat.le_trans h2 hM, Nat.le_trans h3 hM⟩
/-- the numbers that come through -/
theorem passP_val {rate delay nn : Int} {ts xs es vs : List (Nat × Nat)} (h : chkT rate delay ts es = 0) (h3 : rowF xs = true) (h4 : rowF vs = true) {i : Nat} (hi : i < nn.toNat) :
    gridC (outI ts xs es vs rate.toNat (i : Int) delay.toNat) ((passP rate delay nn ts es xs vs).getD i (0, 0)) := by
  unfold passP; rw [tab_at hi]
  exact out_val h h3 h4 _
theorem passP_len {rate delay nn : Int} {ts xs es vs : List (Nat × Nat)} : (passP rate delay nn ts es xs vs).length = nn.toNat := tab_len
end Go.Proofs.Ytnphdnokedhhkaa.Fw
namespace Go.Proofs.Ytnphdnokedhhkaa.Fw
open Go Go.RowKit
abbrev HLwLnAspecG (L n : Nat) : Con → Prop := Con.holds ⟨fnOf, specG, L⟩ (runF ⟨fnOf, specG, L⟩ n)
theorem hnLwLnA {P : Prog} {C : Caller} : Holds P C [] := trivial
theorem hcLwLnA {P : Prog} {C : Caller} {c : Con} {cs : List Con} (h : c.holds P C) (t : Holds P C cs) : Holds P C (c :: cs) := ⟨h, t⟩
theorem hbLwLnA {P : Prog} {C : Caller} {x y : Bool} {cs : List Con} (h : x = y) (t : Holds P C cs) : Holds P C (.b x y :: cs) := ⟨h, t⟩

def lqA (q r d : Int) (ta ea al bl ol l5 l6 l7 : List (Nat × Nat)) (na nb no n5 n6 n7 : Nat) (s5 s6 s7 : List Nat) (i : Nat) : St := ⟨[(4, .int .i64 q), (11, .ptr ⟨0,11,0⟩ [6] 0 0), (12, .slc ⟨0,44,0⟩ [1,9] 1 0 na false), (13, .slc ⟨0,48,0⟩ [1,14] 1 0 nb false), (14, .slc ⟨0,54,0⟩ [1,22] 1 0 no false), (15, .slc ⟨0,15,1000⟩ s5 1 0 n5 false), (16, .slc ⟨0,16,1000⟩ s6 1 0 n6 false), (17, .slc ⟨0,17,1000⟩ s7 1 0 n7 false), (18, .int .i64 i)], [(⟨0,17,1000⟩, ⟨s7, l7.map celC, 1, true⟩), (⟨0,16,1000⟩, ⟨s6, l6.map celC, 1, true⟩), (⟨0,15,1000⟩, ⟨s5, l5.map celC, 1, true⟩), (⟨0,42,0⟩, ⟨[1,5], ta.map celC, 1, true⟩), (⟨0,42,1⟩, ⟨[2,5], ea.map celC, 1, true⟩), (⟨0,11,0⟩, ⟨[6], [[.int .i64 r, .int .i64 d, .slc ⟨0,42,0⟩ [1,5] 1 0 (List.length (ta.map celC)) false, .slc ⟨0,42,1⟩ [2,5] 1 0 (List.length (ea.map celC)) false]], 4, false⟩), (⟨0,44,0⟩, ⟨[1,9], al.map celC, 1, true⟩), (⟨0,48,0⟩, ⟨[1,14], bl.map celC, 1, true⟩), (⟨0,54,0⟩, ⟨[1,22], ol.map celC, 1, true⟩)], 0⟩
def lqB (q r d : Int) (ta ea al bl ol l5 l6 l7 : List (Nat × Nat)) (na nb no n5 n6 n7 : Nat) (s5 s6 s7 : List Nat) (i : Nat) : St := ⟨[(4, .int .i64 q), (11, .ptr ⟨0,11,0⟩ [6] 0 0), (12, .slc ⟨0,44,0⟩ [1,9] 1 0 na false), (13, .slc ⟨0,48,0⟩ [1,14] 1 0 nb false), (14, .slc ⟨0,54,0⟩ [1,22] 1 0 no false), (15, .slc ⟨0,15,1000⟩ s5 1 0 n5 false), (16, .slc ⟨0,16,1000⟩ s6 1 0 n6 false), (17, .slc ⟨0,17,1000⟩ s7 1 0 n7 false), (21, .int .i64 i)], [(⟨0,17,1000⟩, ⟨s7, l7.map celC, 1, true⟩), (⟨0,16,1000⟩, ⟨s6, l6.map celC, 1, true⟩), (⟨0,15,1000⟩, ⟨s5, l5.map celC, 1, true⟩), (⟨0,42,0⟩, ⟨[1,5], ta.map celC, 1, true⟩), (⟨0,42,1⟩, ⟨[2,5], ea.map celC, 1, true⟩), (⟨0,11,0⟩, ⟨[6], [[.int .i64 r, .int .i64 d, .slc ⟨0,42,0⟩ [1,5] 1 0 (List.length (ta.map celC)) false, .slc ⟨0,42,1⟩ [2,5] 1 0 (List.length (ea.map celC)) false]], 4, false⟩), (⟨0,44,0⟩, ⟨[1,9], al.map celC, 1, true⟩), (⟨0,48,0⟩, ⟨[1,14], bl.map celC, 1, true⟩), (⟨0,54,0⟩, ⟨[1,22], ol.map celC, 1, true⟩)], 0⟩
def lqC (q r d : Int) (ta ea al bl ol l5 l6 l7 : List (Nat × Nat)) (na nb no n5 n6 n7 : Nat) (s5 s6 s7 : List Nat) (i : Nat) (z : Nat × Nat) (k : Nat) : St := ⟨[(4, .int .i64 q), (11, .ptr ⟨0,11,0⟩ [6] 0 0), (12, .slc ⟨0,44,0⟩ [1,9] 1 0 na false), (13, .slc ⟨0,48,0⟩ [1,14] 1 0 nb false), (14, .slc ⟨0,54,0⟩ [1,22] 1 0 no false), (15, .slc ⟨0,15,1000⟩ s5 1 0 n5 false), (16, .slc ⟨0,16,1000⟩ s6 1 0 n6 false), (17, .slc ⟨0,17,1000⟩ s7 1 0 n7 false), (18, .int .i64 i), (19, .cpx z.1 z.2), (20, .int .i64 k)], [(⟨0,17,1000⟩, ⟨s7, l7.map celC, 1, true⟩), (⟨0,16,1000⟩, ⟨s6, l6.map celC, 1, true⟩), (⟨0,15,1000⟩, ⟨s5, l5.map celC, 1, true⟩), (⟨0,42,0⟩, ⟨[1,5], ta.map celC, 1, true⟩), (⟨0,42,1⟩, ⟨[2,5], ea.map celC, 1, true⟩), (⟨0,11,0⟩, ⟨[6], [[.int .i64 r, .int .i64 d, .slc ⟨0,42,0⟩ [1,5] 1 0 (List.length (ta.map celC)) false, .slc ⟨0,42,1⟩ [2,5] 1 0 (List.length (ea.map celC)) false]], 4, false⟩), (⟨0,44,0⟩, ⟨[1,9], al.map celC, 1, true⟩), (⟨0,48,0⟩, ⟨[1,14], bl.map celC, 1, true⟩), (⟨0,54,0⟩, ⟨[1,22], ol.map celC, 1, true⟩)], 0⟩
def lqF (q nn : Int) (yp yq yr ya yv yt yu : List (Nat × Nat)) (zp zq zr za zv zt zu : Nat) (i : Nat) : St := ⟨[(4, .int .i64 q), (22, .int .i64 nn), (23, .slc ⟨0,117,0⟩ [1,42] 1 0 zp false), (25, .slc ⟨0,125,0⟩ [1,52] 1 0 zq false), (27, .slc ⟨0,133,0⟩ [1,62] 1 0 zr false), (29, .slc ⟨0,140,0⟩ [1,71] 1 0 za false), (31, .slc ⟨0,147,0⟩ [1,80] 1 0 zv false), (34, .slc ⟨0,208,0⟩ [1,146] 1 0 zt false), (35, .slc ⟨0,215,0⟩ [1,155] 1 0 zu false), (36, .int .i64 i)], [(⟨0,117,0⟩, ⟨[1,42], yp.map celC, 1, true⟩), (⟨0,125,0⟩, ⟨[1,52], yq.map celC, 1, true⟩), (⟨0,133,0⟩, ⟨[1,62], yr.map celC, 1, true⟩), (⟨0,140,0⟩, ⟨[1,71], ya.map celC, 1, true⟩), (⟨0,147,0⟩, ⟨[1,80], yv.map celC, 1, true⟩), (⟨0,208,0⟩, ⟨[1,146], yt.map celC, 1, true⟩), (⟨0,215,0⟩, ⟨[1,155], yu.map celC, 1, true⟩)], 0⟩
def lqG (q nn : Int) (yp yq yr ya yv yt yu : List (Nat × Nat)) (zp zq zr za zv zt zu : Nat) (i : Nat) (z : Nat × Nat) (k : Nat) : St := ⟨[(4, .int .i64 q), (22, .int .i64 nn), (23, .slc ⟨0,117,0⟩ [1,42] 1 0 zp false), (25, .slc ⟨0,125,0⟩ [1,52] 1 0 zq false), (27, .slc ⟨0,133,0⟩ [1,62] 1 0 zr false), (29, .slc ⟨0,140,0⟩ [1,71] 1 0 za false), (31, .slc ⟨0,147,0⟩ [1,80] 1 0 zv false), (34, .slc ⟨0,208,0⟩ [1,146] 1 0 zt false), (35, .slc ⟨0,215,0⟩ [1,155] 1 0 zu false), (36, .int .i64 i), (37, .cpx z.1 z.2), (38, .int .i64 k)], [(⟨0,117,0⟩, ⟨[1,42], yp.map celC, 1, true⟩), (⟨0,125,0⟩, ⟨[1,52], yq.map celC, 1, true⟩), (⟨0,133,0⟩, ⟨[1,62], yr.map celC, 1, true⟩), (⟨0,140,0⟩, ⟨[1,71], ya.map celC, 1, true⟩), (⟨0,147,0⟩, ⟨[1,80], yv.map celC, 1, true⟩), (⟨0,208,0⟩, ⟨[1,146], yt.map celC, 1, true⟩), (⟨0,215,0⟩, ⟨[1,155], yu.map celC, 1, true⟩)], 0⟩
theorem lql_15 {L n : Nat} {rate delay att quarters : Int} {ts es ps qs ks : List Int} {odd : Nat} {q r d : Int} {ta ea al bl ol l5 l6 l7 m7 : List (Nat × Nat)} {na nb no n5 n6 n7 o7 i i2 i3 : Nat} {s5 s6 s7 t7 π : List Nat} {z : Nat × Nat} {k : Nat} {nn : Int} {yp yq yr ya yv yt yu : List (Nat × Nat)} {zp zq zr za zv zt zu : Nat} {r42 : Int} {d42 : Int} {ta42 : List (Nat × Nat)} {ea42 : List (Nat × Nat)} {zs44 : List (Nat × Nat)} {zs48 : List (Nat × Nat)} {zs54 : List (Nat × Nat)} {us117 : List (Nat × Nat)} {e117 : Int} {us125 : List (Nat × Nat)} {e125 : Int} {us133 : List (Nat × Nat)} {e133 : Int} {us140 : List (Nat × Nat)} {e140 : Int} {us147 : List (Nat × Nat)} {e147 : Int} {r201 : Int} {d201 : Int} {ta201 : List (Nat × Nat)} {ea201 : List (Nat × Nat)} {e201 : Int} {us208 : List (Nat × Nat)} {e208 : Int} {us215 : List (Nat × Nat)} {e215 : Int} (h0 : HLwLnAspecG L n (.spec 37 [(.agg [(.v (.int .i64 (rate))), (.v (.int .i64 (delay))), (.lst 1 (List.map celI ts)), (.lst 1 (List.map celI es)), (.flt (odd)), (.v (.int .i64 (att)))])] (.agg [(.v (.int .i64 (r42))), (.v (.int .i64 (d42))), (.own 1 (List.map celC ta42) true), (.own 1 (List.map celC ea42) true)]))) (h1 : HLwLnAspecG L n (.spec 38 [(.lst 1 (List.map celI ps)), (.v (.int .i64 64)), (.v (.int .i64 64)), (.v (.int .i64 150))] (.own 1 (List.map celC zs44) true))) (h2 : HLwLnAspecG L n (.spec 38 [(.lst 1 (List.map celI qs)), (.v (.int .i64 64)), (.v (.int .i64 64)), (.v (.int .i64 ((↑(List.map celC zs44).length : Int))))] (.own 1 (List.map celC zs48) true))) (h3 : HLwLnAspecG L n (.sl (some 1) (.slc (.mk 0 44 0) [1, 9] 1 0 (List.length (List.map celC zs44)) false) none (some (.v (.int .i64 ((↑(List.map celC zs48).length : Int))))) none (.slc (.mk 0 44 0) [1, 9] 1 0 (na) false))) (h4 : HLwLnAspecG L n (.spec 38 [(.lst 1 (List.map celI ks)), (.v (.int .i64 64)), (.v (.int .i64 64)), (.v (.int .i64 150))] (.own 1 (List.map celC zs54) true))) (h5 : HLwLnAspecG L n (.loop 0 [4, 11, 12, 13, 14, 15, 16, 17, 18] m11b4 [31] (.mk [(4, (.v (.int .i64 (IntKind.wrap .i64 (↑(BitVec.ofInt 64 quarters &&& BitVec.ofInt 64 (255)).toNat : Int))))), (11, (.ptr (.mk 0 11 0) [6] 0 0)), (12, (.slc (.mk 0 44 0) [1, 9] 1 0 (na) false)), (13, (.slc (.mk 0 48 0) [1, 14] 1 0 (List.length (List.map celC zs48)) false)), (14, (.slc (.mk 0 54 0) [1, 22] 1 0 (List.length (List.map celC zs54)) false)), (15, (.slc (.mk 0 15 1000) [31] 1 0 0 false)), (16, (.slc (.mk 0 16 1000) [31] 1 0 0 false)), (17, (.slc (.mk 0 17 1000) [31] 1 0 0 false)), (18, (.v (.int .i64 0)))] [((.mk 0 17 1000), (.mk [31] [] 1 true)), ((.mk 0 16 1000), (.mk [31] [] 1 true)), ((.mk 0 15 1000), (.mk [31] [] 1 true)), ((.mk 0 42 0), (.mk [1, 5] (List.map celC ta42) 1 true)), ((.mk 0 42 1), (.mk [2, 5] (List.map celC ea42) 1 true)), ((.mk 0 11 0), (.mk [6] [[(.v (.int .i64 (r42))), (.v (.int .i64 (d42))), (.slc (.mk 0 42 0) [1, 5] 1 0 (List.length (List.map celC ta42)) false), (.slc (.mk 0 42 1) [2, 5] 1 0 (List.length (List.map celC ea42)) false)]] 4 false)), ((.mk 0 44 0), (.mk [1, 9] (List.map celC zs44) 1 true)), ((.mk 0 48 0), (.mk [1, 14] (List.map celC zs48) 1 true)), ((.mk 0 54 0), (.mk [1, 22] (List.map celC zs54) 1 true))] 0) (.exit 0) (.mk [(4, (.v (.int .i64 (q)))), (11, (.ptr (.mk 0 11 0) [6] 0 0)), (12, (.slc (.mk 0 44 0) [1, 9] 1 0 (na) false)), (13, (.slc (.mk 0 48 0) [1, 14] 1 0 (nb) false)), (14, (.slc (.mk 0 54 0) [1, 22] 1 0 (no) false)), (15, (.slc (.mk 0 15 1000) (s5) 1 0 (n5) false)), (16, (.slc (.mk 0 16 1000) (s6) 1 0 (n6) false)), (17, (.slc (.mk 0 17 1000) (s7) 1 0 (n7) false)), (18, (.v (.int .i64 ((↑i : Int)))))] [((.mk 0 17 1000), (.mk (s7) (List.map celC l7) 1 true)), ((.mk 0 16 1000), (.mk (s6) (List.map celC l6) 1 true)), ((.mk 0 15 1000), (.mk (s5) (List.map celC l5) 1 true)), ((.mk 0 42 0), (.mk [1, 5] (List.map celC ta) 1 true)), ((.mk 0 42 1), (.mk [2, 5] (List.map celC ea) 1 true)), ((.mk 0 11 0), (.mk [6] [[(.v (.int .i64 (r))), (.v (.int .i64 (d))), (.slc (.mk 0 42 0) [1, 5] 1 0 (List.length (List.map celC ta)) false), (.slc (.mk 0 42 1) [2, 5] 1 0 (List.length (List.map celC ea)) false)]] 4 false)), ((.mk 0 44 0), (.mk [1, 9] (List.map celC al) 1 true)), ((.mk 0 48 0), (.mk [1, 14] (List.map celC bl) 1 true)), ((.mk 0 54 0), (.mk [1, 22] (List.map celC ol) 1 true))] 0))) (h6 : HLwLnAspecG L n (.loop 0 [4, 11, 12, 13, 14, 15, 16, 17, 21] m11b2 [33] (.mk [(4, (.v (.int .i64 (q)))), (11, (.ptr (.mk 0 11 0) [6] 0 0)), (12, (.slc (.mk 0 44 0) [1, 9] 1 0 (na) false)), (13, (.slc (.mk 0 48 0) [1, 14] 1 0 (nb) false)), (14, (.slc (.mk 0 54 0) [1, 22] 1 0 (no) false)), (15, (.slc (.mk 0 15 1000) (s5) 1 0 (n5) false)), (16, (.slc (.mk 0 16 1000) (s6) 1 0 (n6) false)), (17, (.slc (.mk 0 17 1000) (s7) 1 0 (n7) false)), (21, (.v (.int .i64 0)))] [((.mk 0 17 1000), (.mk (s7) (List.map celC l7) 1 true)), ((.mk 0 16 1000), (.mk (s6) (List.map celC l6) 1 true)), ((.mk 0 15 1000), (.mk (s5) (List.map celC l5) 1 true)), ((.mk 0 42 0), (.mk [1, 5] (List.map celC ta) 1 true)), ((.mk 0 42 1), (.mk [2, 5] (List.map celC ea) 1 true)), ((.mk 0 11 0), (.mk [6] [[(.v (.int .i64 (r))), (.v (.int .i64 (d))), (.slc (.mk 0 42 0) [1, 5] 1 0 (List.length (List.map celC ta)) false), (.slc (.mk 0 42 1) [2, 5] 1 0 (List.length (List.map celC ea)) false)]] 4 false)), ((.mk 0 44 0), (.mk [1, 9] (List.map celC al) 1 true)), ((.mk 0 48 0), (.mk [1, 14] (List.map celC bl) 1 true)), ((.mk 0 54 0), (.mk [1, 22] (List.map celC ol) 1 true))] 0) (.exit 4) (.mk [(4, (.v (.int .i64 (q)))), (11, (.ptr (.mk 0 11 0) [6] 0 0)), (12, (.slc (.mk 0 44 0) [1, 9] 1 0 (na) false)), (13, (.slc (.mk 0 48 0) [1, 14] 1 0 (nb) false)), (14, (.slc (.mk 0 54 0) [1, 22] 1 0 (no) false)), (15, (.slc (.mk 0 15 1000) (s5) 1 0 (n5) false)), (16, (.slc (.mk 0 16 1000) (s6) 1 0 (n6) false)), (17, (.slc (.mk 0 17 1000) (t7) 1 0 (o7) false)), (21, (.v (.int .i64 ((↑i2 : Int)))))] [((.mk 0 17 1000), (.mk (t7) (List.map celC m7) 1 true)), ((.mk 0 16 1000), (.mk (s6) (List.map celC l6) 1 true)), ((.mk 0 15 1000), (.mk (s5) (List.map celC l5) 1 true)), ((.mk 0 42 0), (.mk [1, 5] (List.map celC ta) 1 true)), ((.mk 0 42 1), (.mk [2, 5] (List.map celC ea) 1 true)), ((.mk 0 11 0), (.mk [6] [[(.v (.int .i64 (r))), (.v (.int .i64 (d))), (.slc (.mk 0 42 0) [1, 5] 1 0 (List.length (List.map celC ta)) false), (.slc (.mk 0 42 1) [2, 5] 1 0 (List.length (List.map celC ea)) false)]] 4 false)), ((.mk 0 44 0), (.mk [1, 9] (List.map celC al) 1 true)), ((.mk 0 48 0), (.mk [1, 14] (List.map celC bl) 1 true)), ((.mk 0 54 0), (.mk [1, 22] (List.map celC ol) 1 true))] 0))) (h7 : HLwLnAspecG L n (.spec 19 [(.agg [(.v (.int .i64 (r))), (.v (.int .i64 (d))), (.lst 1 (cutX (List.map celC ta) 0 (List.length (List.map celC ta)))), (.lst 1 (cutX (List.map celC ea) 0 (List.length (List.map celC ea))))]), (.lst 1 (cutX (List.map celC al) 0 (na))), (.lst 1 (cutX (List.map celC ol) 0 (no))), (.v (.int .i64 (IntKind.wrap .i64 ((↑na : Int) + 100))))] (.tup [(.own 1 (List.map celC us117) true), (.v (.int .i64 (e117)))]))) (h8 : HLwLnAspecG L n (.le (0 + (List.map celC ta).length) (List.length (List.map celC ta)))) (h9 : HLwLnAspecG L n (.le (0 + (List.map celC ea).length) (List.length (List.map celC ea)))) (h10 : HLwLnAspecG L n (.le (0 + na) (List.length (List.map celC al)))) (h11 : HLwLnAspecG L n (.le (0 + no) (List.length (List.map celC ol)))) (h12 : HLwLnAspecG L n (.spec 19 [(.agg [(.v (.int .i64 (r))), (.v (.int .i64 (d))), (.lst 1 (cutX (List.map celC ta) 0 (List.length (List.map celC ta)))), (.lst 1 (cutX (List.map celC ea) 0 (List.length (List.map celC ea))))]), (.lst 1 (cutX (List.map celC bl) 0 (nb))), (.lst 1 (cutX (List.map celC ol) 0 (no))), (.v (.int .i64 (IntKind.wrap .i64 ((↑na : Int) + 100))))] (.tup [(.own 1 (List.map celC us125) true), (.v (.int .i64 (e125)))]))) (h13 : HLwLnAspecG L n (.le (0 + nb) (List.length (List.map celC bl)))) (h14 : HLwLnAspecG L n (.spec 19 [(.agg [(.v (.int .i64 (r))), (.v (.int .i64 (d))), (.lst 1 (cutX (List.map celC ta) 0 (List.length (List.map celC ta)))), (.lst 1 (cutX (List.map celC ea) 0 (List.length (List.map celC ea))))]), (.lst 1 (cutX (List.map celC l5) 0 (n5))), (.lst 1 (cutX (List.map celC m7) 0 (o7))), (.v (.int .i64 (IntKind.wrap .i64 ((↑na : Int) + 100))))] (.tup [(.own 1 (List.map celC us133) true), (.v (.int .i64 (e133)))]))) (h15 : HLwLnAspecG L n (.le (0 + n5) (List.length (List.map celC l5)))) (h16 : HLwLnAspecG L n (.le (0 + o7) (List.length (List.map celC m7)))) (h17 : HLwLnAspecG L n (.spec 19 [(.agg [(.v (.int .i64 (r))), (.v (.int .i64 (d))), (.lst 1 (cutX (List.map celC ta) 0 (List.length (List.map celC ta)))), (.lst 1 (cutX (List.map celC ea) 0 (List.length (List.map celC ea))))]), (.lst 1 (cutX (List.map celC al) 0 (na))), .nils, (.v (.int .i64 (IntKind.wrap .i64 ((↑na : Int) + 100))))] (.tup [(.own 1 (List.map celC us140) true), (.v (.int .i64 (e140)))]))) (h18 : HLwLnAspecG L n (.spec 19 [(.agg [(.v (.int .i64 (r))), (.v (.int .i64 (d))), (.lst 1 (cutX (List.map celC ta) 0 (List.length (List.map celC ta)))), (.lst 1 (cutX (List.map celC ea) 0 (List.length (List.map celC ea))))]), .nils, (.lst 1 (cutX (List.map celC ol) 0 (no))), (.v (.int .i64 (IntKind.wrap .i64 ((↑na : Int) + 100))))] (.tup [(.own 1 (List.map celC us147) true), (.v (.int .i64 (e147)))]))) (h19 : (e117 != 0) = false) (h20 : (e125 != 0) = false) (h21 : (e133 != 0) = false) (h22 : (e140 != 0) = false) (h23 : (e147 != 0) = false) (h24 : ((↑(List.map celC us117).length : Int) != IntKind.wrap .i64 ((↑na : Int) + 100)) = false) (h25 : ((↑(List.map celC us125).length : Int) != IntKind.wrap .i64 ((↑na : Int) + 100)) = false) (h26 : ((↑(List.map celC us133).length : Int) != IntKind.wrap .i64 ((↑na : Int) + 100)) = false) (h27 : ((↑(List.map celC us140).length : Int) != IntKind.wrap .i64 ((↑na : Int) + 100)) = false) (h28 : ((↑(List.map celC us147).length : Int) != IntKind.wrap .i64 ((↑na : Int) + 100)) = false) (h29 : HLwLnAspecG L n (.spec 26 [(.agg [(.v (.int .i64 (r))), (.v (.int .i64 (d))), (.lst 1 (cutX (List.map celC ta) 0 (List.length (List.map celC ta)))), (.lst 1 (cutX (List.map celC ea) 0 (List.length (List.map celC ea))))]), (.v (.int .i64 (q)))] (.tup [(.agg [(.v (.int .i64 (r201))), (.v (.int .i64 (d201))), (.own 1 (List.map celC ta201) true), (.own 1 (List.map celC ea201) true)]), (.v (.int .i64 (e201)))]))) (h30 : HLwLnAspecG L n (.spec 19 [(.agg [(.v (.int .i64 (r))), (.v (.int .i64 (d))), (.lst 1 (cutX (List.map celC ta) 0 (List.length (List.map celC ta)))), (.lst 1 (cutX (List.map celC ea) 0 (List.length (List.map celC ea))))]), (.lst 1 (cutX (List.map celC l6) 0 (n6))), .nils, (.v (.int .i64 (IntKind.wrap .i64 ((↑na : Int) + 100))))] (.tup [(.own 1 (List.map celC us208) true), (.v (.int .i64 (e208)))]))) (h31 : HLwLnAspecG L n (.le (0 + n6) (List.length (List.map celC l6)))) (h32 : HLwLnAspecG L n (.spec 19 [(.agg [(.v (.int .i64 (r201))), (.v (.int .i64 (d201))), (.lst 1 (cutX (List.map celC ta201) 0 (List.length (List.map celC ta201)))), (.lst 1 (cutX (List.map celC ea201) 0 (List.length (List.map celC ea201))))]), (.lst 1 (cutX (List.map celC al) 0 (na))), .nils, (.v (.int .i64 (IntKind.wrap .i64 ((↑na : Int) + 100))))] (.tup [(.own 1 (List.map celC us215) true), (.v (.int .i64 (e215)))]))) (h33 : HLwLnAspecG L n (.le (0 + (List.map celC ta201).length) (List.length (List.map celC ta201)))) (h34 : HLwLnAspecG L n (.le (0 + (List.map celC ea201).length) (List.length (List.map celC ea201)))) (h35 : (e201 != 0) = false) (h36 : (e208 != 0) = false) (h37 : (e215 != 0) = false) (h38 : ((↑(List.map celC us208).length : Int) != IntKind.wrap .i64 ((↑na : Int) + 100)) = false) (h39 : ((↑(List.map celC us215).length : Int) != IntKind.wrap .i64 ((↑na : Int) + 100)) = false) (h40 : HLwLnAspecG L n (.loop 0 [4, 22, 23, 25, 27, 29, 31, 34, 35, 36] m11b1 [184] (.mk [(4, (.v (.int .i64 (q)))), (22, (.v (.int .i64 (IntKind.wrap .i64 ((↑na : Int) + 100))))), (23, (.slc (.mk 0 117 0) [1, 42] 1 0 (List.length (List.map celC us117)) false)), (25, (.slc (.mk 0 125 0) [1, 52] 1 0 (List.length (List.map celC us125)) false)), (27, (.slc (.mk 0 133 0) [1, 62] 1 0 (List.length (List.map celC us133)) false)), (29, (.slc (.mk 0 140 0) [1, 71] 1 0 (List.length (List.map celC us140)) false)), (31, (.slc (.mk 0 147 0) [1, 80] 1 0 (List.length (List.map celC us147)) false)), (34, (.slc (.mk 0 208 0) [1, 146] 1 0 (List.length (List.map celC us208)) false)), (35, (.slc (.mk 0 215 0) [1, 155] 1 0 (List.length (List.map celC us215)) false)), (36, (.v (.int .i64 0)))] [((.mk 0 117 0), (.mk [1, 42] (List.map celC us117) 1 true)), ((.mk 0 125 0), (.mk [1, 52] (List.map celC us125) 1 true)), ((.mk 0 133 0), (.mk [1, 62] (List.map celC us133) 1 true)), ((.mk 0 140 0), (.mk [1, 71] (List.map celC us140) 1 true)), ((.mk 0 147 0), (.mk [1, 80] (List.map celC us147) 1 true)), ((.mk 0 208 0), (.mk [1, 146] (List.map celC us208) 1 true)), ((.mk 0 215 0), (.mk [1, 155] (List.map celC us215) 1 true))] 0) (.exit 6) (.mk [(4, (.v (.int .i64 (q)))), (22, (.v (.int .i64 (nn)))), (23, (.slc (.mk 0 117 0) [1, 42] 1 0 (zp) false)), (25, (.slc (.mk 0 125 0) [1, 52] 1 0 (zq) false)), (27, (.slc (.mk 0 133 0) [1, 62] 1 0 (zr) false)), (29, (.slc (.mk 0 140 0) [1, 71] 1 0 (za) false)), (31, (.slc (.mk 0 147 0) [1, 80] 1 0 (zv) false)), (34, (.slc (.mk 0 208 0) [1, 146] 1 0 (zt) false)), (35, (.slc (.mk 0 215 0) [1, 155] 1 0 (zu) false)), (36, (.v (.int .i64 ((↑i3 : Int)))))] [((.mk 0 117 0), (.mk [1, 42] (List.map celC yp) 1 true)), ((.mk 0 125 0), (.mk [1, 52] (List.map celC yq) 1 true)), ((.mk 0 133 0), (.mk [1, 62] (List.map celC yr) 1 true)), ((.mk 0 140 0), (.mk [1, 71] (List.map celC ya) 1 true)), ((.mk 0 147 0), (.mk [1, 80] (List.map celC yv) 1 true)), ((.mk 0 208 0), (.mk [1, 146] (List.map celC yt) 1 true)), ((.mk 0 215 0), (.mk [1, 155] (List.map celC yu) 1 true))] 0))) : den ⟨fnOf, specG, L⟩ (n+1) 11 [.agg [.int .i64 rate, .int .i64 delay, .lst 1 (ts.map celI), .lst 1 (es.map celI), .flt odd, .int .i64 att], .lst 1 (ps.map celI), .lst 1 (qs.map celI), .lst 1 (ks.map celI), .int .i64 quarters] = some (.v (.bool true)) :=
  denD_sound (q := [((some 42), (Dec.call (.agg [(.v (.int .i64 (r42))), (.v (.int .i64 (d42))), (.own 1 (List.map celC ta42) true), (.own 1 (List.map celC ea42) true)]))), ((some 44), (Dec.call (.own 1 (List.map celC zs44) true))), ((some 48), (Dec.call (.own 1 (List.map celC zs48) true))), ((some 52), (Dec.val (.slc (.mk 0 44 0) [1, 9] 1 0 (na) false))), ((some 54), (Dec.call (.own 1 (List.map celC zs54) true))), ((some 200004), (Dec.loop (.exit 0) (.mk [(4, (.v (.int .i64 (q)))), (11, (.ptr (.mk 0 11 0) [6] 0 0)), (12, (.slc (.mk 0 44 0) [1, 9] 1 0 (na) false)), (13, (.slc (.mk 0 48 0) [1, 14] 1 0 (nb) false)), (14, (.slc (.mk 0 54 0) [1, 22] 1 0 (no) false)), (15, (.slc (.mk 0 15 1000) (s5) 1 0 (n5) false)), (16, (.slc (.mk 0 16 1000) (s6) 1 0 (n6) false)), (17, (.slc (.mk 0 17 1000) (s7) 1 0 (n7) false)), (18, (.v (.int .i64 ((↑i : Int)))))] [((.mk 0 17 1000), (.mk (s7) (List.map celC l7) 1 true)), ((.mk 0 16 1000), (.mk (s6) (List.map celC l6) 1 true)), ((.mk 0 15 1000), (.mk (s5) (List.map celC l5) 1 true)), ((.mk 0 42 0), (.mk [1, 5] (List.map celC ta) 1 true)), ((.mk 0 42 1), (.mk [2, 5] (List.map celC ea) 1 true)), ((.mk 0 11 0), (.mk [6] [[(.v (.int .i64 (r))), (.v (.int .i64 (d))), (.slc (.mk 0 42 0) [1, 5] 1 0 (List.length (List.map celC ta)) false), (.slc (.mk 0 42 1) [2, 5] 1 0 (List.length (List.map celC ea)) false)]] 4 false)), ((.mk 0 44 0), (.mk [1, 9] (List.map celC al) 1 true)), ((.mk 0 48 0), (.mk [1, 14] (List.map celC bl) 1 true)), ((.mk 0 54 0), (.mk [1, 22] (List.map celC ol) 1 true))] 0))), ((some 200002), (Dec.loop (.exit 4) (.mk [(4, (.v (.int .i64 (q)))), (11, (.ptr (.mk 0 11 0) [6] 0 0)), (12, (.slc (.mk 0 44 0) [1, 9] 1 0 (na) false)), (13, (.slc (.mk 0 48 0) [1, 14] 1 0 (nb) false)), (14, (.slc (.mk 0 54 0) [1, 22] 1 0 (no) false)), (15, (.slc (.mk 0 15 1000) (s5) 1 0 (n5) false)), (16, (.slc (.mk 0 16 1000) (s6) 1 0 (n6) false)), (17, (.slc (.mk 0 17 1000) (t7) 1 0 (o7) false)), (21, (.v (.int .i64 ((↑i2 : Int)))))] [((.mk 0 17 1000), (.mk (t7) (List.map celC m7) 1 true)), ((.mk 0 16 1000), (.mk (s6) (List.map celC l6) 1 true)), ((.mk 0 15 1000), (.mk (s5) (List.map celC l5) 1 true)), ((.mk 0 42 0), (.mk [1, 5] (List.map celC ta) 1 true)), ((.mk 0 42 1), (.mk [2, 5] (List.map celC ea) 1 true)), ((.mk 0 11 0), (.mk [6] [[(.v (.int .i64 (r))), (.v (.int .i64 (d))), (.slc (.mk 0 42 0) [1, 5] 1 0 (List.length (List.map celC ta)) false), (.slc (.mk 0 42 1) [2, 5] 1 0 (List.length (List.map celC ea)) false)]] 4 false)), ((.mk 0 44 0), (.mk [1, 9] (List.map celC al) 1 true)), ((.mk 0 48 0), (.mk [1, 14] (List.map celC bl) 1 true)), ((.mk 0 54 0), (.mk [1, 22] (List.map celC ol) 1 true))] 0))), ((some 117), (Dec.call (.tup [(.own 1 (List.map celC us117) true), (.v (.int .i64 (e117)))]))), ((some 125), (Dec.call (.tup [(.own 1 (List.map celC us125) true), (.v (.int .i64 (e125)))]))), ((some 133), (Dec.call (.tup [(.own 1 (List.map celC us133) true), (.v (.int .i64 (e133)))]))), ((some 140), (Dec.call (.tup [(.own 1 (List.map celC us140) true), (.v (.int .i64 (e140)))]))), ((some 147), (Dec.call (.tup [(.own 1 (List.map celC us147) true), (.v (.int .i64 (e147)))]))), ((some 152), (Dec.b false)), ((some 156), (Dec.b false)), ((some 160), (Dec.b false)), ((some 164), (Dec.b false)), ((some 168), (Dec.b false)), ((some 174), (Dec.b false)), ((some 180), (Dec.b false)), ((some 186), (Dec.b false)), ((some 192), (Dec.b false)), ((some 197), (Dec.b false)), ((some 201), (Dec.call (.tup [(.agg [(.v (.int .i64 (r201))), (.v (.int .i64 (d201))), (.own 1 (List.map celC ta201) true), (.own 1 (List.map celC ea201) true)]), (.v (.int .i64 (e201)))]))), ((some 208), (Dec.call (.tup [(.own 1 (List.map celC us208) true), (.v (.int .i64 (e208)))]))), ((some 215), (Dec.call (.tup [(.own 1 (List.map celC us215) true), (.v (.int .i64 (e215)))]))), ((some 220), (Dec.b false)), ((some 224), (Dec.b false)), ((some 228), (Dec.b false)), ((some 234), (Dec.b false)), ((some 239), (Dec.b false)), ((some 200001), (Dec.loop (.exit 6) (.mk [(4, (.v (.int .i64 (q)))), (22, (.v (.int .i64 (nn)))), (23, (.slc (.mk 0 117 0) [1, 42] 1 0 (zp) false)), (25, (.slc (.mk 0 125 0) [1, 52] 1 0 (zq) false)), (27, (.slc (.mk 0 133 0) [1, 62] 1 0 (zr) false)), (29, (.slc (.mk 0 140 0) [1, 71] 1 0 (za) false)), (31, (.slc (.mk 0 147 0) [1, 80] 1 0 (zv) false)), (34, (.slc (.mk 0 208 0) [1, 146] 1 0 (zt) false)), (35, (.slc (.mk 0 215 0) [1, 155] 1 0 (zu) false)), (36, (.v (.int .i64 ((↑i3 : Int)))))] [((.mk 0 117 0), (.mk [1, 42] (List.map celC yp) 1 true)), ((.mk 0 125 0), (.mk [1, 52] (List.map celC yq) 1 true)), ((.mk 0 133 0), (.mk [1, 62] (List.map celC yr) 1 true)), ((.mk 0 140 0), (.mk [1, 71] (List.map celC ya) 1 true)), ((.mk 0 147 0), (.mk [1, 80] (List.map celC yv) 1 true)), ((.mk 0 208 0), (.mk [1, 146] (List.map celC yt) 1 true)), ((.mk 0 215 0), (.mk [1, 155] (List.map celC yu) 1 true))] 0)))]) (by kernel_rfl) (hcLwLnA (c := (.st [0] [0])) rfl (hcLwLnA h0 (hcLwLnA (c := (.st [6] [6])) rfl (hcLwLnA h1 (hcLwLnA h2 (hcLwLnA h3 (hcLwLnA h4 (hcLwLnA h5 (hcLwLnA h6 (hcLwLnA (c := (.st [6] [6])) rfl (hcLwLnA h7 (hcLwLnA (c := (.st [1, 5] [1, 5])) rfl (hcLwLnA h8 (hcLwLnA (c := (.st [2, 5] [2, 5])) rfl (hcLwLnA h9 (hcLwLnA (c := (.st [1, 9] [1, 9])) rfl (hcLwLnA h10 (hcLwLnA (c := (.st [1, 22] [1, 22])) rfl (hcLwLnA h11 (hcLwLnA (c := (.st [6] [6])) rfl (hcLwLnA h12 (hcLwLnA (c := (.st [1, 5] [1, 5])) rfl (hcLwLnA h8 (hcLwLnA (c := (.st [2, 5] [2, 5])) rfl (hcLwLnA h9 (hcLwLnA (c := (.st [1, 14] [1, 14])) rfl (hcLwLnA h13 (hcLwLnA (c := (.st [1, 22] [1, 22])) rfl (hcLwLnA h11 (hcLwLnA (c := (.st [6] [6])) rfl (hcLwLnA h14 (hcLwLnA (c := (.st [1, 5] [1, 5])) rfl (hcLwLnA h8 (hcLwLnA (c := (.st [2, 5] [2, 5])) rfl (hcLwLnA h9 (hcLwLnA (c := (.st (s5) (s5))) rfl (hcLwLnA h15 (hcLwLnA (c := (.st (t7) (t7))) rfl (hcLwLnA h16 (hcLwLnA (c := (.st [6] [6])) rfl (hcLwLnA h17 (hcLwLnA (c := (.st [1, 5] [1, 5])) rfl (hcLwLnA h8 (hcLwLnA (c := (.st [2, 5] [2, 5])) rfl (hcLwLnA h9 (hcLwLnA (c := (.st [1, 9] [1, 9])) rfl (hcLwLnA h10 (hcLwLnA (c := (.st [6] [6])) rfl (hcLwLnA h18 (hcLwLnA (c := (.st [1, 5] [1, 5])) rfl (hcLwLnA h8 (hcLwLnA (c := (.st [2, 5] [2, 5])) rfl (hcLwLnA h9 (hcLwLnA (c := (.st [1, 22] [1, 22])) rfl (hcLwLnA h11 (hbLwLnA h19 (hbLwLnA h20 (hbLwLnA h21 (hbLwLnA h22 (hbLwLnA h23 (hbLwLnA h24 (hbLwLnA h25 (hbLwLnA h26 (hbLwLnA h27 (hbLwLnA h28 (hcLwLnA (c := (.st [6] [6])) rfl (hcLwLnA h29 (hcLwLnA (c := (.st [1, 5] [1, 5])) rfl (hcLwLnA h8 (hcLwLnA (c := (.st [2, 5] [2, 5])) rfl (hcLwLnA h9 (hcLwLnA (c := (.st [140] [140])) rfl (hcLwLnA (c := (.st [6] [6])) rfl (hcLwLnA h30 (hcLwLnA (c := (.st [1, 5] [1, 5])) rfl (hcLwLnA h8 (hcLwLnA (c := (.st [2, 5] [2, 5])) rfl (hcLwLnA h9 (hcLwLnA (c := (.st (s6) (s6))) rfl (hcLwLnA h31 (hcLwLnA (c := (.st [140] [140])) rfl (hcLwLnA h32 (hcLwLnA (c := (.st [1, 136] [1, 136])) rfl (hcLwLnA h33 (hcLwLnA (c := (.st [2, 136] [2, 136])) rfl (hcLwLnA h34 (hcLwLnA (c := (.st [1, 9] [1, 9])) rfl (hcLwLnA h10 (hbLwLnA h35 (hbLwLnA h36 (hbLwLnA h37 (hbLwLnA h38 (hbLwLnA h39 (hcLwLnA h40 hnLwLnA))))))))))))))))))))))))))))))))))))))))))))))))))))))))))))))))))))))))))))))))))))))))))))))
theorem lqa_0 {L n : Nat} {rate delay att quarters : Int} {ts es ps qs ks : List Int} {odd : Nat} {q r d : Int} {ta ea al bl ol l5 l6 l7 m7 : List (Nat × Nat)} {na nb no n5 n6 n7 o7 i i2 i3 : Nat} {s5 s6 s7 t7 π : List Nat} {z : Nat × Nat} {k : Nat} {nn : Int} {yp yq yr ya yv yt yu : List (Nat × Nat)} {zp zq zr za zv zt zu : Nat} {k65 : Nat} {x66 : Nat × Nat} {k78 : Nat} {x79 : Nat × Nat} {k82 : Nat} {x83 : Nat × Nat} (h0 : (decide ((↑i : Int) < (↑na : Int))) = true) (h1 : HLwLnAspecG L n (.ix (.v (.int .i64 ((↑i : Int)))) (na) (k65))) (h2 : HLwLnAspecG L n (.at (List.map celC al) (0 + k65) [(AV.cpx (x66.fst) (x66.snd))])) (h3 : HLwLnAspecG L n (.loop 0 [4, 11, 12, 13, 14, 15, 16, 17, 18, 19, 20] m11b3 ([10, (i)] ++ (π)) (.mk [(4, (.v (.int .i64 (q)))), (11, (.ptr (.mk 0 11 0) [6] 0 0)), (12, (.slc (.mk 0 44 0) [1, 9] 1 0 (na) false)), (13, (.slc (.mk 0 48 0) [1, 14] 1 0 (nb) false)), (14, (.slc (.mk 0 54 0) [1, 22] 1 0 (no) false)), (15, (.slc (.mk 0 15 1000) (s5) 1 0 (n5) false)), (16, (.slc (.mk 0 16 1000) (s6) 1 0 (n6) false)), (17, (.slc (.mk 0 17 1000) (s7) 1 0 (n7) false)), (18, (.v (.int .i64 ((↑i : Int))))), (19, (.cpx (x66.fst) (x66.snd))), (20, (.v (.int .i64 0)))] [((.mk 0 17 1000), (.mk (s7) (List.map celC l7) 1 true)), ((.mk 0 16 1000), (.mk (s6) (List.map celC l6) 1 true)), ((.mk 0 15 1000), (.mk (s5) (List.map celC l5) 1 true)), ((.mk 0 42 0), (.mk [1, 5] (List.map celC ta) 1 true)), ((.mk 0 42 1), (.mk [2, 5] (List.map celC ea) 1 true)), ((.mk 0 11 0), (.mk [6] [[(.v (.int .i64 (r))), (.v (.int .i64 (d))), (.slc (.mk 0 42 0) [1, 5] 1 0 (List.length (List.map celC ta)) false), (.slc (.mk 0 42 1) [2, 5] 1 0 (List.length (List.map celC ea)) false)]] 4 false)), ((.mk 0 44 0), (.mk [1, 9] (List.map celC al) 1 true)), ((.mk 0 48 0), (.mk [1, 14] (List.map celC bl) 1 true)), ((.mk 0 54 0), (.mk [1, 22] (List.map celC ol) 1 true))] 0) (.exit 2) (.mk [(4, (.v (.int .i64 (q)))), (11, (.ptr (.mk 0 11 0) [6] 0 0)), (12, (.slc (.mk 0 44 0) [1, 9] 1 0 (na) false)), (13, (.slc (.mk 0 48 0) [1, 14] 1 0 (nb) false)), (14, (.slc (.mk 0 54 0) [1, 22] 1 0 (no) false)), (15, (.slc (.mk 0 15 1000) (s5) 1 0 (n5) false)), (16, (.slc (.mk 0 16 1000) (s6) 1 0 (n6) false)), (17, (.slc (.mk 0 17 1000) (s7) 1 0 (n7) false)), (18, (.v (.int .i64 ((↑i : Int))))), (19, (.cpx (z.fst) (z.snd))), (20, (.v (.int .i64 ((↑k : Int)))))] [((.mk 0 17 1000), (.mk (s7) (List.map celC l7) 1 true)), ((.mk 0 16 1000), (.mk (s6) (List.map celC l6) 1 true)), ((.mk 0 15 1000), (.mk (s5) (List.map celC l5) 1 true)), ((.mk 0 42 0), (.mk [1, 5] (List.map celC ta) 1 true)), ((.mk 0 42 1), (.mk [2, 5] (List.map celC ea) 1 true)), ((.mk 0 11 0), (.mk [6] [[(.v (.int .i64 (r))), (.v (.int .i64 (d))), (.slc (.mk 0 42 0) [1, 5] 1 0 (List.length (List.map celC ta)) false), (.slc (.mk 0 42 1) [2, 5] 1 0 (List.length (List.map celC ea)) false)]] 4 false)), ((.mk 0 44 0), (.mk [1, 9] (List.map celC al) 1 true)), ((.mk 0 48 0), (.mk [1, 14] (List.map celC bl) 1 true)), ((.mk 0 54 0), (.mk [1, 22] (List.map celC ol) 1 true))] 0))) (h4 : HLwLnAspecG L n (.ix (.v (.int .i64 ((↑i : Int)))) (na) (k78))) (h5 : HLwLnAspecG L n (.at (List.map celC al) (0 + k78) [(AV.cpx (x79.fst) (x79.snd))])) (h6 : HLwLnAspecG L n (.ix (.v (.int .i64 ((↑i : Int)))) (nb) (k82))) (h7 : HLwLnAspecG L n (.at (List.map celC bl) (0 + k82) [(AV.cpx (x83.fst) (x83.snd))])) (h8 : HLwLnAspecG L n (.push (n5) 1 16 (List.map celC l5))) (h9 : HLwLnAspecG L n (.push (n6) 1 16 (List.map celC l6))) : rnd 0 [4, 11, 12, 13, 14, 15, 16, 17, 18] (bodyOf ⟨fnOf, specG, L⟩ (runF ⟨fnOf, specG, L⟩ n) 0 m11b4 (i :: π) (lqA q r d ta ea al bl ol l5 l6 l7 na nb no n5 n6 n7 s5 s6 s7 i : St)) = some (.nrm, (.mk [(4, (.v (.int .i64 (q)))), (11, (.ptr (.mk 0 11 0) [6] 0 0)), (12, (.slc (.mk 0 44 0) [1, 9] 1 0 (na) false)), (13, (.slc (.mk 0 48 0) [1, 14] 1 0 (nb) false)), (14, (.slc (.mk 0 54 0) [1, 22] 1 0 (no) false)), (15, (.slc (.mk 0 15 1000) ([22, (i)] ++ (π)) 1 0 (n5 + 1) false)), (16, (.slc (.mk 0 16 1000) ([27, (i)] ++ (π)) 1 0 (n6 + 1) false)), (17, (.slc (.mk 0 17 1000) (s7) 1 0 (n7) false)), (18, (.v (.int .i64 (IntKind.wrap .i64 ((↑i : Int) + 1)))))] [((.mk 0 17 1000), (.mk (s7) (List.map celC l7) 1 true)), ((.mk 0 16 1000), (.mk ([27, (i)] ++ (π)) ((List.map celC l6) ++ [[(AV.cpx (z.fst) (z.snd))]]) 1 true)), ((.mk 0 15 1000), (.mk ([22, (i)] ++ (π)) ((List.map celC l5) ++ [[(AV.cpx (fadd x79.fst x83.fst) (fadd x79.snd x83.snd))]]) 1 true)), ((.mk 0 42 0), (.mk [1, 5] (List.map celC ta) 1 true)), ((.mk 0 42 1), (.mk [2, 5] (List.map celC ea) 1 true)), ((.mk 0 11 0), (.mk [6] [[(.v (.int .i64 (r))), (.v (.int .i64 (d))), (.slc (.mk 0 42 0) [1, 5] 1 0 (List.length (List.map celC ta)) false), (.slc (.mk 0 42 1) [2, 5] 1 0 (List.length (List.map celC ea)) false)]] 4 false)), ((.mk 0 44 0), (.mk [1, 9] (List.map celC al) 1 true)), ((.mk 0 48 0), (.mk [1, 14] (List.map celC bl) 1 true)), ((.mk 0 54 0), (.mk [1, 22] (List.map celC ol) 1 true))] 0)) :=
  rndD_sound (q := [((some 60), (Dec.b true)), ((some 65), (Dec.ix (k65))), ((some 66), (Dec.el [(AV.cpx (x66.fst) (x66.snd))])), ((some 200003), (Dec.loop (.exit 2) (.mk [(4, (.v (.int .i64 (q)))), (11, (.ptr (.mk 0 11 0) [6] 0 0)), (12, (.slc (.mk 0 44 0) [1, 9] 1 0 (na) false)), (13, (.slc (.mk 0 48 0) [1, 14] 1 0 (nb) false)), (14, (.slc (.mk 0 54 0) [1, 22] 1 0 (no) false)), (15, (.slc (.mk 0 15 1000) (s5) 1 0 (n5) false)), (16, (.slc (.mk 0 16 1000) (s6) 1 0 (n6) false)), (17, (.slc (.mk 0 17 1000) (s7) 1 0 (n7) false)), (18, (.v (.int .i64 ((↑i : Int))))), (19, (.cpx (z.fst) (z.snd))), (20, (.v (.int .i64 ((↑k : Int)))))] [((.mk 0 17 1000), (.mk (s7) (List.map celC l7) 1 true)), ((.mk 0 16 1000), (.mk (s6) (List.map celC l6) 1 true)), ((.mk 0 15 1000), (.mk (s5) (List.map celC l5) 1 true)), ((.mk 0 42 0), (.mk [1, 5] (List.map celC ta) 1 true)), ((.mk 0 42 1), (.mk [2, 5] (List.map celC ea) 1 true)), ((.mk 0 11 0), (.mk [6] [[(.v (.int .i64 (r))), (.v (.int .i64 (d))), (.slc (.mk 0 42 0) [1, 5] 1 0 (List.length (List.map celC ta)) false), (.slc (.mk 0 42 1) [2, 5] 1 0 (List.length (List.map celC ea)) false)]] 4 false)), ((.mk 0 44 0), (.mk [1, 9] (List.map celC al) 1 true)), ((.mk 0 48 0), (.mk [1, 14] (List.map celC bl) 1 true)), ((.mk 0 54 0), (.mk [1, 22] (List.map celC ol) 1 true))] 0))), ((some 78), (Dec.ix (k78))), ((some 79), (Dec.el [(AV.cpx (x79.fst) (x79.snd))])), ((some 82), (Dec.ix (k82))), ((some 83), (Dec.el [(AV.cpx (x83.fst) (x83.snd))])), ((some 86), Dec.push), ((some 90), Dec.push)]) (by kernel_rfl) (hbLwLnA h0 (hcLwLnA h1 (hcLwLnA (c := (.st [1, 9] [1, 9])) rfl (hcLwLnA h2 (hcLwLnA h3 (hcLwLnA h4 (hcLwLnA (c := (.st [1, 9] [1, 9])) rfl (hcLwLnA h5 (hcLwLnA h6 (hcLwLnA (c := (.st [1, 14] [1, 14])) rfl (hcLwLnA h7 (hcLwLnA (c := (.st (s5) (s5))) rfl (hcLwLnA h8 (hcLwLnA (c := (.st ([21, (i)] ++ (π)) ([21, (i)] ++ (π)))) rfl (hcLwLnA (c := (.st (s6) (s6))) rfl (hcLwLnA h9 (hcLwLnA (c := (.st ([26, (i)] ++ (π)) ([26, (i)] ++ (π)))) rfl hnLwLnA)))))))))))))))))
theorem lqa_1 {L n : Nat} {rate delay att quarters : Int} {ts es ps qs ks : List Int} {odd : Nat} {q r d : Int} {ta ea al bl ol l5 l6 l7 m7 : List (Nat × Nat)} {na nb no n5 n6 n7 o7 i i2 i3 : Nat} {s5 s6 s7 t7 π : List Nat} {z : Nat × Nat} {k : Nat} {nn : Int} {yp yq yr ya yv yt yu : List (Nat × Nat)} {zp zq zr za zv zt zu : Nat} (h0 : (decide ((↑i : Int) < (↑na : Int))) = false) : rnd 0 [4, 11, 12, 13, 14, 15, 16, 17, 18] (bodyOf ⟨fnOf, specG, L⟩ (runF ⟨fnOf, specG, L⟩ n) 0 m11b4 (i :: π) (lqA q r d ta ea al bl ol l5 l6 l7 na nb no n5 n6 n7 s5 s6 s7 i : St)) = some ((.exit 0), (.mk [(4, (.v (.int .i64 (q)))), (11, (.ptr (.mk 0 11 0) [6] 0 0)), (12, (.slc (.mk 0 44 0) [1, 9] 1 0 (na) false)), (13, (.slc (.mk 0 48 0) [1, 14] 1 0 (nb) false)), (14, (.slc (.mk 0 54 0) [1, 22] 1 0 (no) false)), (15, (.slc (.mk 0 15 1000) (s5) 1 0 (n5) false)), (16, (.slc (.mk 0 16 1000) (s6) 1 0 (n6) false)), (17, (.slc (.mk 0 17 1000) (s7) 1 0 (n7) false)), (18, (.v (.int .i64 ((↑i : Int)))))] [((.mk 0 17 1000), (.mk (s7) (List.map celC l7) 1 true)), ((.mk 0 16 1000), (.mk (s6) (List.map celC l6) 1 true)), ((.mk 0 15 1000), (.mk (s5) (List.map celC l5) 1 true)), ((.mk 0 42 0), (.mk [1, 5] (List.map celC ta) 1 true)), ((.mk 0 42 1), (.mk [2, 5] (List.map celC ea) 1 true)), ((.mk 0 11 0), (.mk [6] [[(.v (.int .i64 (r))), (.v (.int .i64 (d))), (.slc (.mk 0 42 0) [1, 5] 1 0 (List.length (List.map celC ta)) false), (.slc (.mk 0 42 1) [2, 5] 1 0 (List.length (List.map celC ea)) false)]] 4 false)), ((.mk 0 44 0), (.mk [1, 9] (List.map celC al) 1 true)), ((.mk 0 48 0), (.mk [1, 14] (List.map celC bl) 1 true)), ((.mk 0 54 0), (.mk [1, 22] (List.map celC ol) 1 true))] 0)) :=
  rndD_sound (q := [((some 60), (Dec.b false))]) (by kernel_rfl) (hbLwLnA h0 hnLwLnA)
theorem lqc_0 {L n : Nat} {rate delay att quarters : Int} {ts es ps qs ks : List Int} {odd : Nat} {q r d : Int} {ta ea al bl ol l5 l6 l7 m7 : List (Nat × Nat)} {na nb no n5 n6 n7 o7 i i2 i3 : Nat} {s5 s6 s7 t7 π : List Nat} {z : Nat × Nat} {k : Nat} {nn : Int} {yp yq yr ya yv yt yu : List (Nat × Nat)} {zp zq zr za zv zt zu : Nat} {a74 : Nat} {b74 : Nat} (h0 : (decide ((↑k : Int) < q.tmod (4))) = true) (h1 : HLwLnAspecG L n (.call 36 [(AV.cpx (z.fst) (z.snd))] (.cpx (a74) (b74)))) : rnd 0 [4, 11, 12, 13, 14, 15, 16, 17, 18, 19, 20] (bodyOf ⟨fnOf, specG, L⟩ (runF ⟨fnOf, specG, L⟩ n) 0 m11b3 (k :: π) (lqC q r d ta ea al bl ol l5 l6 l7 na nb no n5 n6 n7 s5 s6 s7 i z k : St)) = some (.nrm, (.mk [(4, (.v (.int .i64 (q)))), (11, (.ptr (.mk 0 11 0) [6] 0 0)), (12, (.slc (.mk 0 44 0) [1, 9] 1 0 (na) false)), (13, (.slc (.mk 0 48 0) [1, 14] 1 0 (nb) false)), (14, (.slc (.mk 0 54 0) [1, 22] 1 0 (no) false)), (15, (.slc (.mk 0 15 1000) (s5) 1 0 (n5) false)), (16, (.slc (.mk 0 16 1000) (s6) 1 0 (n6) false)), (17, (.slc (.mk 0 17 1000) (s7) 1 0 (n7) false)), (18, (.v (.int .i64 ((↑i : Int))))), (19, (.cpx (a74) (b74))), (20, (.v (.int .i64 (IntKind.wrap .i64 ((↑k : Int) + 1)))))] [((.mk 0 17 1000), (.mk (s7) (List.map celC l7) 1 true)), ((.mk 0 16 1000), (.mk (s6) (List.map celC l6) 1 true)), ((.mk 0 15 1000), (.mk (s5) (List.map celC l5) 1 true)), ((.mk 0 42 0), (.mk [1, 5] (List.map celC ta) 1 true)), ((.mk 0 42 1), (.mk [2, 5] (List.map celC ea) 1 true)), ((.mk 0 11 0), (.mk [6] [[(.v (.int .i64 (r))), (.v (.int .i64 (d))), (.slc (.mk 0 42 0) [1, 5] 1 0 (List.length (List.map celC ta)) false), (.slc (.mk 0 42 1) [2, 5] 1 0 (List.length (List.map celC ea)) false)]] 4 false)), ((.mk 0 44 0), (.mk [1, 9] (List.map celC al) 1 true)), ((.mk 0 48 0), (.mk [1, 14] (List.map celC bl) 1 true)), ((.mk 0 54 0), (.mk [1, 22] (List.map celC ol) 1 true))] 0)) :=
  rndD_sound (q := [((some 70), (Dec.b true)), ((some 74), (Dec.call (.cpx (a74) (b74))))]) (by kernel_rfl) (hbLwLnA h0 (hcLwLnA h1 hnLwLnA))
theorem lqc_1 {L n : Nat} {rate delay att quarters : Int} {ts es ps qs ks : List Int} {odd : Nat} {q r d : Int} {ta ea al bl ol l5 l6 l7 m7 : List (Nat × Nat)} {na nb no n5 n6 n7 o7 i i2 i3 : Nat} {s5 s6 s7 t7 π : List Nat} {z : Nat × Nat} {k : Nat} {nn : Int} {yp yq yr ya yv yt yu : List (Nat × Nat)} {zp zq zr za zv zt zu : Nat} (h0 : (decide ((↑k : Int) < q.tmod (4))) = false) : rnd 0 [4, 11, 12, 13, 14, 15, 16, 17, 18, 19, 20] (bodyOf ⟨fnOf, specG, L⟩ (runF ⟨fnOf, specG, L⟩ n) 0 m11b3 (k :: π) (lqC q r d ta ea al bl ol l5 l6 l7 na nb no n5 n6 n7 s5 s6 s7 i z k : St)) = some ((.exit 2), (.mk [(4, (.v (.int .i64 (q)))), (11, (.ptr (.mk 0 11 0) [6] 0 0)), (12, (.slc (.mk 0 44 0) [1, 9] 1 0 (na) false)), (13, (.slc (.mk 0 48 0) [1, 14] 1 0 (nb) false)), (14, (.slc (.mk 0 54 0) [1, 22] 1 0 (no) false)), (15, (.slc (.mk 0 15 1000) (s5) 1 0 (n5) false)), (16, (.slc (.mk 0 16 1000) (s6) 1 0 (n6) false)), (17, (.slc (.mk 0 17 1000) (s7) 1 0 (n7) false)), (18, (.v (.int .i64 ((↑i : Int))))), (19, (.cpx (z.fst) (z.snd))), (20, (.v (.int .i64 ((↑k : Int)))))] [((.mk 0 17 1000), (.mk (s7) (List.map celC l7) 1 true)), ((.mk 0 16 1000), (.mk (s6) (List.map celC l6) 1 true)), ((.mk 0 15 1000), (.mk (s5) (List.map celC l5) 1 true)), ((.mk 0 42 0), (.mk [1, 5] (List.map celC ta) 1 true)), ((.mk 0 42 1), (.mk [2, 5] (List.map celC ea) 1 true)), ((.mk 0 11 0), (.mk [6] [[(.v (.int .i64 (r))), (.v (.int .i64 (d))), (.slc (.mk 0 42 0) [1, 5] 1 0 (List.length (List.map celC ta)) false), (.slc (.mk 0 42 1) [2, 5] 1 0 (List.length (List.map celC ea)) false)]] 4 false)), ((.mk 0 44 0), (.mk [1, 9] (List.map celC al) 1 true)), ((.mk 0 48 0), (.mk [1, 14] (List.map celC bl) 1 true)), ((.mk 0 54 0), (.mk [1, 22] (List.map celC ol) 1 true))] 0)) :=
  rndD_sound (q := [((some 70), (Dec.b false))]) (by kernel_rfl) (hbLwLnA h0 hnLwLnA)
theorem lqb_0 {L n : Nat} {rate delay att quarters : Int} {ts es ps qs ks : List Int} {odd : Nat} {q r d : Int} {ta ea al bl ol l5 l6 l7 m7 : List (Nat × Nat)} {na nb no n5 n6 n7 o7 i i2 i3 : Nat} {s5 s6 s7 t7 π : List Nat} {z : Nat × Nat} {k : Nat} {nn : Int} {yp yq yr ya yv yt yu : List (Nat × Nat)} {zp zq zr za zv zt zu : Nat} {k100 : Nat} {x101 : Nat × Nat} {k104 : Nat} {x105 : Nat × Nat} (h0 : (decide ((↑i : Int) < (↑no : Int))) = true) (h1 : HLwLnAspecG L n (.ix (.v (.int .i64 ((↑i : Int)))) (no) (k100))) (h2 : HLwLnAspecG L n (.at (List.map celC ol) (0 + k100) [(AV.cpx (x101.fst) (x101.snd))])) (h3 : HLwLnAspecG L n (.ix (.v (.int .i64 ((↑i : Int)))) (no) (k104))) (h4 : HLwLnAspecG L n (.at (List.map celC ol) (0 + k104) [(AV.cpx (x105.fst) (x105.snd))])) (h5 : HLwLnAspecG L n (.push (n7) 1 16 (List.map celC l7))) : rnd 0 [4, 11, 12, 13, 14, 15, 16, 17, 21] (bodyOf ⟨fnOf, specG, L⟩ (runF ⟨fnOf, specG, L⟩ n) 0 m11b2 (i :: π) (lqB q r d ta ea al bl ol l5 l6 l7 na nb no n5 n6 n7 s5 s6 s7 i : St)) = some (.nrm, (.mk [(4, (.v (.int .i64 (q)))), (11, (.ptr (.mk 0 11 0) [6] 0 0)), (12, (.slc (.mk 0 44 0) [1, 9] 1 0 (na) false)), (13, (.slc (.mk 0 48 0) [1, 14] 1 0 (nb) false)), (14, (.slc (.mk 0 54 0) [1, 22] 1 0 (no) false)), (15, (.slc (.mk 0 15 1000) (s5) 1 0 (n5) false)), (16, (.slc (.mk 0 16 1000) (s6) 1 0 (n6) false)), (17, (.slc (.mk 0 17 1000) ([15, (i)] ++ (π)) 1 0 (n7 + 1) false)), (21, (.v (.int .i64 (IntKind.wrap .i64 ((↑i : Int) + 1)))))] [((.mk 0 17 1000), (.mk ([15, (i)] ++ (π)) ((List.map celC l7) ++ [[(AV.cpx (fadd x101.fst x105.fst) (fadd x101.snd x105.snd))]]) 1 true)), ((.mk 0 16 1000), (.mk (s6) (List.map celC l6) 1 true)), ((.mk 0 15 1000), (.mk (s5) (List.map celC l5) 1 true)), ((.mk 0 42 0), (.mk [1, 5] (List.map celC ta) 1 true)), ((.mk 0 42 1), (.mk [2, 5] (List.map celC ea) 1 true)), ((.mk 0 11 0), (.mk [6] [[(.v (.int .i64 (r))), (.v (.int .i64 (d))), (.slc (.mk 0 42 0) [1, 5] 1 0 (List.length (List.map celC ta)) false), (.slc (.mk 0 42 1) [2, 5] 1 0 (List.length (List.map celC ea)) false)]] 4 false)), ((.mk 0 44 0), (.mk [1, 9] (List.map celC al) 1 true)), ((.mk 0 48 0), (.mk [1, 14] (List.map celC bl) 1 true)), ((.mk 0 54 0), (.mk [1, 22] (List.map celC ol) 1 true))] 0)) :=
  rndD_sound (q := [((some 94), (Dec.b true)), ((some 100), (Dec.ix (k100))), ((some 101), (Dec.el [(AV.cpx (x101.fst) (x101.snd))])), ((some 104), (Dec.ix (k104))), ((some 105), (Dec.el [(AV.cpx (x105.fst) (x105.snd))])), ((some 108), Dec.push)]) (by kernel_rfl) (hbLwLnA h0 (hcLwLnA h1 (hcLwLnA (c := (.st [1, 22] [1, 22])) rfl (hcLwLnA h2 (hcLwLnA h3 (hcLwLnA (c := (.st [1, 22] [1, 22])) rfl (hcLwLnA h4 (hcLwLnA (c := (.st (s7) (s7))) rfl (hcLwLnA h5 (hcLwLnA (c := (.st ([14, (i)] ++ (π)) ([14, (i)] ++ (π)))) rfl hnLwLnA))))))))))
theorem lqb_1 {L n : Nat} {rate delay att quarters : Int} {ts es ps qs ks : List Int} {odd : Nat} {q r d : Int} {ta ea al bl ol l5 l6 l7 m7 : List (Nat × Nat)} {na nb no n5 n6 n7 o7 i i2 i3 : Nat} {s5 s6 s7 t7 π : List Nat} {z : Nat × Nat} {k : Nat} {nn : Int} {yp yq yr ya yv yt yu : List (Nat × Nat)} {zp zq zr za zv zt zu : Nat} (h0 : (decide ((↑i : Int) < (↑no : Int))) = false) : rnd 0 [4, 11, 12, 13, 14, 15, 16, 17, 21] (bodyOf ⟨fnOf, specG, L⟩ (runF ⟨fnOf, specG, L⟩ n) 0 m11b2 (i :: π) (lqB q r d ta ea al bl ol l5 l6 l7 na nb no n5 n6 n7 s5 s6 s7 i : St)) = some ((.exit 4), (.mk [(4, (.v (.int .i64 (q)))), (11, (.ptr (.mk 0 11 0) [6] 0 0)), (12, (.slc (.mk 0 44 0) [1, 9] 1 0 (na) false)), (13, (.slc (.mk 0 48 0) [1, 14] 1 0 (nb) false)), (14, (.slc (.mk 0 54 0) [1, 22] 1 0 (no) false)), (15, (.slc (.mk 0 15 1000) (s5) 1 0 (n5) false)), (16, (.slc (.mk 0 16 1000) (s6) 1 0 (n6) false)), (17, (.slc (.mk 0 17 1000) (s7) 1 0 (n7) false)), (21, (.v (.int .i64 ((↑i : Int)))))] [((.mk 0 17 1000), (.mk (s7) (List.map celC l7) 1 true)), ((.mk 0 16 1000), (.mk (s6) (List.map celC l6) 1 true)), ((.mk 0 15 1000), (.mk (s5) (List.map celC l5) 1 true)), ((.mk 0 42 0), (.mk [1, 5] (List.map celC ta) 1 true)), ((.mk 0 42 1), (.mk [2, 5] (List.map celC ea) 1 true)), ((.mk 0 11 0), (.mk [6] [[(.v (.int .i64 (r))), (.v (.int .i64 (d))), (.slc (.mk 0 42 0) [1, 5] 1 0 (List.length (List.map celC ta)) false), (.slc (.mk 0 42 1) [2, 5] 1 0 (List.length (List.map celC ea)) false)]] 4 false)), ((.mk 0 44 0), (.mk [1, 9] (List.map celC al) 1 true)), ((.mk 0 48 0), (.mk [1, 14] (List.map celC bl) 1 true)), ((.mk 0 54 0), (.mk [1, 22] (List.map celC ol) 1 true))] 0)) :=
  rndD_sound (q := [((some 94), (Dec.b false))]) (by kernel_rfl) (hbLwLnA h0 hnLwLnA)
theorem tur_0 {L n a b : Nat}  : den ⟨fnOf, specG, L⟩ (n+1) 36 [.cpx a b] = some (.cpx (fneg b) (a)) :=
  denD_sound (q := []) (by kernel_rfl) hnLwLnA
theorem lqf_4 {L n : Nat} {q nn : Int} {yp yq yr ya yv yt yu : List (Nat × Nat)} {zp zq zr za zv zt zu i : Nat} {π : List Nat} {z : Nat × Nat} {k : Nat} {k247 : Nat} {x248 : Nat × Nat} {k259 : Nat} {x260 : Nat × Nat} {k263 : Nat} {x264 : Nat × Nat} {k267 : Nat} {x268 : Nat × Nat} {k274 : Nat} {x275 : Nat × Nat} {k278 : Nat} {x279 : Nat × Nat} {k282 : Nat} {x283 : Nat × Nat} {k290 : Nat} {x291 : Nat × Nat} {k298 : Nat} {x299 : Nat × Nat} (h0 : (decide ((↑i : Int) < nn)) = true) (h1 : HLwLnAspecG L n (.ix (.v (.int .i64 ((↑i : Int)))) (za) (k247))) (h2 : HLwLnAspecG L n (.at (List.map celC ya) (0 + k247) [(AV.cpx (x248.fst) (x248.snd))])) (h3 : HLwLnAspecG L n (.loop 0 [4, 22, 23, 25, 27, 29, 31, 34, 35, 36, 37, 38] m11b0 ([9, (i)] ++ (π)) (.mk [(4, (.v (.int .i64 (q)))), (22, (.v (.int .i64 (nn)))), (23, (.slc (.mk 0 117 0) [1, 42] 1 0 (zp) false)), (25, (.slc (.mk 0 125 0) [1, 52] 1 0 (zq) false)), (27, (.slc (.mk 0 133 0) [1, 62] 1 0 (zr) false)), (29, (.slc (.mk 0 140 0) [1, 71] 1 0 (za) false)), (31, (.slc (.mk 0 147 0) [1, 80] 1 0 (zv) false)), (34, (.slc (.mk 0 208 0) [1, 146] 1 0 (zt) false)), (35, (.slc (.mk 0 215 0) [1, 155] 1 0 (zu) false)), (36, (.v (.int .i64 ((↑i : Int))))), (37, (.cpx (x248.fst) (x248.snd))), (38, (.v (.int .i64 0)))] [((.mk 0 117 0), (.mk [1, 42] (List.map celC yp) 1 true)), ((.mk 0 125 0), (.mk [1, 52] (List.map celC yq) 1 true)), ((.mk 0 133 0), (.mk [1, 62] (List.map celC yr) 1 true)), ((.mk 0 140 0), (.mk [1, 71] (List.map celC ya) 1 true)), ((.mk 0 147 0), (.mk [1, 80] (List.map celC yv) 1 true)), ((.mk 0 208 0), (.mk [1, 146] (List.map celC yt) 1 true)), ((.mk 0 215 0), (.mk [1, 155] (List.map celC yu) 1 true))] 0) (.exit 8) (.mk [(4, (.v (.int .i64 (q)))), (22, (.v (.int .i64 (nn)))), (23, (.slc (.mk 0 117 0) [1, 42] 1 0 (zp) false)), (25, (.slc (.mk 0 125 0) [1, 52] 1 0 (zq) false)), (27, (.slc (.mk 0 133 0) [1, 62] 1 0 (zr) false)), (29, (.slc (.mk 0 140 0) [1, 71] 1 0 (za) false)), (31, (.slc (.mk 0 147 0) [1, 80] 1 0 (zv) false)), (34, (.slc (.mk 0 208 0) [1, 146] 1 0 (zt) false)), (35, (.slc (.mk 0 215 0) [1, 155] 1 0 (zu) false)), (36, (.v (.int .i64 ((↑i : Int))))), (37, (.cpx (z.fst) (z.snd))), (38, (.v (.int .i64 ((↑k : Int)))))] [((.mk 0 117 0), (.mk [1, 42] (List.map celC yp) 1 true)), ((.mk 0 125 0), (.mk [1, 52] (List.map celC yq) 1 true)), ((.mk 0 133 0), (.mk [1, 62] (List.map celC yr) 1 true)), ((.mk 0 140 0), (.mk [1, 71] (List.map celC ya) 1 true)), ((.mk 0 147 0), (.mk [1, 80] (List.map celC yv) 1 true)), ((.mk 0 208 0), (.mk [1, 146] (List.map celC yt) 1 true)), ((.mk 0 215 0), (.mk [1, 155] (List.map celC yu) 1 true))] 0))) (h4 : HLwLnAspecG L n (.ix (.v (.int .i64 ((↑i : Int)))) (zr) (k259))) (h5 : HLwLnAspecG L n (.at (List.map celC yr) (0 + k259) [(AV.cpx (x260.fst) (x260.snd))])) (h6 : HLwLnAspecG L n (.ix (.v (.int .i64 ((↑i : Int)))) (zp) (k263))) (h7 : HLwLnAspecG L n (.at (List.map celC yp) (0 + k263) [(AV.cpx (x264.fst) (x264.snd))])) (h8 : HLwLnAspecG L n (.ix (.v (.int .i64 ((↑i : Int)))) (zq) (k267))) (h9 : HLwLnAspecG L n (.at (List.map celC yq) (0 + k267) [(AV.cpx (x268.fst) (x268.snd))])) (h10 : (!(feq x260.fst (fadd x264.fst x268.fst) && feq x260.snd (fadd x264.snd x268.snd))) = false) (h11 : HLwLnAspecG L n (.ix (.v (.int .i64 ((↑i : Int)))) (zp) (k274))) (h12 : HLwLnAspecG L n (.at (List.map celC yp) (0 + k274) [(AV.cpx (x275.fst) (x275.snd))])) (h13 : HLwLnAspecG L n (.ix (.v (.int .i64 ((↑i : Int)))) (za) (k278))) (h14 : HLwLnAspecG L n (.at (List.map celC ya) (0 + k278) [(AV.cpx (x279.fst) (x279.snd))])) (h15 : HLwLnAspecG L n (.ix (.v (.int .i64 ((↑i : Int)))) (zv) (k282))) (h16 : HLwLnAspecG L n (.at (List.map celC yv) (0 + k282) [(AV.cpx (x283.fst) (x283.snd))])) (h17 : (!(feq x275.fst (fadd x279.fst x283.fst) && feq x275.snd (fadd x279.snd x283.snd))) = false) (h18 : HLwLnAspecG L n (.ix (.v (.int .i64 ((↑i : Int)))) (zt) (k290))) (h19 : HLwLnAspecG L n (.at (List.map celC yt) (0 + k290) [(AV.cpx (x291.fst) (x291.snd))])) (h20 : (!(feq x291.fst z.fst && feq x291.snd z.snd)) = false) (h21 : HLwLnAspecG L n (.ix (.v (.int .i64 ((↑i : Int)))) (zu) (k298))) (h22 : HLwLnAspecG L n (.at (List.map celC yu) (0 + k298) [(AV.cpx (x299.fst) (x299.snd))])) (h23 : (!(feq x299.fst z.fst && feq x299.snd z.snd)) = false) : seeZ 0 [4, 22, 23, 25, 27, 29, 31, 34, 35, 36] m11.res (bodyOf ⟨fnOf, specG, L⟩ (runF ⟨fnOf, specG, L⟩ n) 0 m11b1 (i :: π) (lqF q nn yp yq yr ya yv yt yu zp zq zr za zv zt zu i : St)) = some (RO.go .nrm (.mk [(4, (.v (.int .i64 (q)))), (22, (.v (.int .i64 (nn)))), (23, (.slc (.mk 0 117 0) [1, 42] 1 0 (zp) false)), (25, (.slc (.mk 0 125 0) [1, 52] 1 0 (zq) false)), (27, (.slc (.mk 0 133 0) [1, 62] 1 0 (zr) false)), (29, (.slc (.mk 0 140 0) [1, 71] 1 0 (za) false)), (31, (.slc (.mk 0 147 0) [1, 80] 1 0 (zv) false)), (34, (.slc (.mk 0 208 0) [1, 146] 1 0 (zt) false)), (35, (.slc (.mk 0 215 0) [1, 155] 1 0 (zu) false)), (36, (.v (.int .i64 (IntKind.wrap .i64 ((↑i : Int) + 1)))))] [((.mk 0 117 0), (.mk [1, 42] (List.map celC yp) 1 true)), ((.mk 0 125 0), (.mk [1, 52] (List.map celC yq) 1 true)), ((.mk 0 133 0), (.mk [1, 62] (List.map celC yr) 1 true)), ((.mk 0 140 0), (.mk [1, 71] (List.map celC ya) 1 true)), ((.mk 0 147 0), (.mk [1, 80] (List.map celC yv) 1 true)), ((.mk 0 208 0), (.mk [1, 146] (List.map celC yt) 1 true)), ((.mk 0 215 0), (.mk [1, 155] (List.map celC yu) 1 true))] 0)) :=
  rndZ_sound (q := [((some 242), (Dec.b true)), ((some 247), (Dec.ix (k247))), ((some 248), (Dec.el [(AV.cpx (x248.fst) (x248.snd))])), ((some 200000), (Dec.loop (.exit 8) (.mk [(4, (.v (.int .i64 (q)))), (22, (.v (.int .i64 (nn)))), (23, (.slc (.mk 0 117 0) [1, 42] 1 0 (zp) false)), (25, (.slc (.mk 0 125 0) [1, 52] 1 0 (zq) false)), (27, (.slc (.mk 0 133 0) [1, 62] 1 0 (zr) false)), (29, (.slc (.mk 0 140 0) [1, 71] 1 0 (za) false)), (31, (.slc (.mk 0 147 0) [1, 80] 1 0 (zv) false)), (34, (.slc (.mk 0 208 0) [1, 146] 1 0 (zt) false)), (35, (.slc (.mk 0 215 0) [1, 155] 1 0 (zu) false)), (36, (.v (.int .i64 ((↑i : Int))))), (37, (.cpx (z.fst) (z.snd))), (38, (.v (.int .i64 ((↑k : Int)))))] [((.mk 0 117 0), (.mk [1, 42] (List.map celC yp) 1 true)), ((.mk 0 125 0), (.mk [1, 52] (List.map celC yq) 1 true)), ((.mk 0 133 0), (.mk [1, 62] (List.map celC yr) 1 true)), ((.mk 0 140 0), (.mk [1, 71] (List.map celC ya) 1 true)), ((.mk 0 147 0), (.mk [1, 80] (List.map celC yv) 1 true)), ((.mk 0 208 0), (.mk [1, 146] (List.map celC yt) 1 true)), ((.mk 0 215 0), (.mk [1, 155] (List.map celC yu) 1 true))] 0))), ((some 259), (Dec.ix (k259))), ((some 260), (Dec.el [(AV.cpx (x260.fst) (x260.snd))])), ((some 263), (Dec.ix (k263))), ((some 264), (Dec.el [(AV.cpx (x264.fst) (x264.snd))])), ((some 267), (Dec.ix (k267))), ((some 268), (Dec.el [(AV.cpx (x268.fst) (x268.snd))])), ((some 271), (Dec.b false)), ((some 274), (Dec.ix (k274))), ((some 275), (Dec.el [(AV.cpx (x275.fst) (x275.snd))])), ((some 278), (Dec.ix (k278))), ((some 279), (Dec.el [(AV.cpx (x279.fst) (x279.snd))])), ((some 282), (Dec.ix (k282))), ((some 283), (Dec.el [(AV.cpx (x283.fst) (x283.snd))])), ((some 287), (Dec.b false)), ((some 290), (Dec.ix (k290))), ((some 291), (Dec.el [(AV.cpx (x291.fst) (x291.snd))])), ((some 295), (Dec.b false)), ((some 298), (Dec.ix (k298))), ((some 299), (Dec.el [(AV.cpx (x299.fst) (x299.snd))])), ((some 302), (Dec.b false))]) (by kernel_rfl) (hbLwLnA h0 (hcLwLnA h1 (hcLwLnA (c := (.st [1, 71] [1, 71])) rfl (hcLwLnA h2 (hcLwLnA h3 (hcLwLnA h4 (hcLwLnA (c := (.st [1, 62] [1, 62])) rfl (hcLwLnA h5 (hcLwLnA h6 (hcLwLnA (c := (.st [1, 42] [1, 42])) rfl (hcLwLnA h7 (hcLwLnA h8 (hcLwLnA (c := (.st [1, 52] [1, 52])) rfl (hcLwLnA h9 (hbLwLnA h10 (hcLwLnA h11 (hcLwLnA (c := (.st [1, 42] [1, 42])) rfl (hcLwLnA h12 (hcLwLnA h13 (hcLwLnA (c := (.st [1, 71] [1, 71])) rfl (hcLwLnA h14 (hcLwLnA h15 (hcLwLnA (c := (.st [1, 80] [1, 80])) rfl (hcLwLnA h16 (hbLwLnA h17 (hcLwLnA h18 (hcLwLnA (c := (.st [1, 146] [1, 146])) rfl (hcLwLnA h19 (hbLwLnA h20 (hcLwLnA h21 (hcLwLnA (c := (.st [1, 155] [1, 155])) rfl (hcLwLnA h22 (hbLwLnA h23 hnLwLnA)))))))))))))))))))))))))))))))))
theorem lqf_5 {L n : Nat} {q nn : Int} {yp yq yr ya yv yt yu : List (Nat × Nat)} {zp zq zr za zv zt zu i : Nat} {π : List Nat} {z : Nat × Nat} {k : Nat} (h0 : (decide ((↑i : Int) < nn)) = false) : seeZ 0 [4, 22, 23, 25, 27, 29, 31, 34, 35, 36] m11.res (bodyOf ⟨fnOf, specG, L⟩ (runF ⟨fnOf, specG, L⟩ n) 0 m11b1 (i :: π) (lqF q nn yp yq yr ya yv yt yu zp zq zr za zv zt zu i : St)) = some (RO.go (.exit 6) (.mk [(4, (.v (.int .i64 (q)))), (22, (.v (.int .i64 (nn)))), (23, (.slc (.mk 0 117 0) [1, 42] 1 0 (zp) false)), (25, (.slc (.mk 0 125 0) [1, 52] 1 0 (zq) false)), (27, (.slc (.mk 0 133 0) [1, 62] 1 0 (zr) false)), (29, (.slc (.mk 0 140 0) [1, 71] 1 0 (za) false)), (31, (.slc (.mk 0 147 0) [1, 80] 1 0 (zv) false)), (34, (.slc (.mk 0 208 0) [1, 146] 1 0 (zt) false)), (35, (.slc (.mk 0 215 0) [1, 155] 1 0 (zu) false)), (36, (.v (.int .i64 ((↑i : Int)))))] [((.mk 0 117 0), (.mk [1, 42] (List.map celC yp) 1 true)), ((.mk 0 125 0), (.mk [1, 52] (List.map celC yq) 1 true)), ((.mk 0 133 0), (.mk [1, 62] (List.map celC yr) 1 true)), ((.mk 0 140 0), (.mk [1, 71] (List.map celC ya) 1 true)), ((.mk 0 147 0), (.mk [1, 80] (List.map celC yv) 1 true)), ((.mk 0 208 0), (.mk [1, 146] (List.map celC yt) 1 true)), ((.mk 0 215 0), (.mk [1, 155] (List.map celC yu) 1 true))] 0)) :=
  rndZ_sound (q := [((some 242), (Dec.b false))]) (by kernel_rfl) (hbLwLnA h0 hnLwLnA)
theorem lqg_0 {L n : Nat} {q nn : Int} {yp yq yr ya yv yt yu : List (Nat × Nat)} {zp zq zr za zv zt zu i : Nat} {π : List Nat} {z : Nat × Nat} {k : Nat} {a256 : Nat} {b256 : Nat} (h0 : (decide ((↑k : Int) < q.tmod (4))) = true) (h1 : HLwLnAspecG L n (.call 36 [(AV.cpx (z.fst) (z.snd))] (.cpx (a256) (b256)))) : rnd 0 [4, 22, 23, 25, 27, 29, 31, 34, 35, 36, 37, 38] (bodyOf ⟨fnOf, specG, L⟩ (runF ⟨fnOf, specG, L⟩ n) 0 m11b0 (k :: π) (lqG q nn yp yq yr ya yv yt yu zp zq zr za zv zt zu i z k : St)) = some (.nrm, (.mk [(4, (.v (.int .i64 (q)))), (22, (.v (.int .i64 (nn)))), (23, (.slc (.mk 0 117 0) [1, 42] 1 0 (zp) false)), (25, (.slc (.mk 0 125 0) [1, 52] 1 0 (zq) false)), (27, (.slc (.mk 0 133 0) [1, 62] 1 0 (zr) false)), (29, (.slc (.mk 0 140 0) [1, 71] 1 0 (za) false)), (31, (.slc (.mk 0 147 0) [1, 80] 1 0 (zv) false)), (34, (.slc (.mk 0 208 0) [1, 146] 1 0 (zt) false)), (35, (.slc (.mk 0 215 0) [1, 155] 1 0 (zu) false)), (36, (.v (.int .i64 ((↑i : Int))))), (37, (.cpx (a256) (b256))), (38, (.v (.int .i64 (IntKind.wrap .i64 ((↑k : Int) + 1)))))] [((.mk 0 117 0), (.mk [1, 42] (List.map celC yp) 1 true)), ((.mk 0 125 0), (.mk [1, 52] (List.map celC yq) 1 true)), ((.mk 0 133 0), (.mk [1, 62] (List.map celC yr) 1 true)), ((.mk 0 140 0), (.mk [1, 71] (List.map celC ya) 1 true)), ((.mk 0 147 0), (.mk [1, 80] (List.map celC yv) 1 true)), ((.mk 0 208 0), (.mk [1, 146] (List.map celC yt) 1 true)), ((.mk 0 215 0), (.mk [1, 155] (List.map celC yu) 1 true))] 0)) :=
  rndD_sound (q := [((some 252), (Dec.b true)), ((some 256), (Dec.call (.cpx (a256) (b256))))]) (by kernel_rfl) (hbLwLnA h0 (hcLwLnA h1 hnLwLnA))
theorem lqg_1 {L n : Nat} {q nn : Int} {yp yq yr ya yv yt yu : List (Nat × Nat)} {zp zq zr za zv zt zu i : Nat} {π : List Nat} {z : Nat × Nat} {k : Nat} (h0 : (decide ((↑k : Int) < q.tmod (4))) = false) : rnd 0 [4, 22, 23, 25, 27, 29, 31, 34, 35, 36, 37, 38] (bodyOf ⟨fnOf, specG, L⟩ (runF ⟨fnOf, specG, L⟩ n) 0 m11b0 (k :: π) (lqG q nn yp yq yr ya yv yt yu zp zq zr za zv zt zu i z k : St)) = some ((.exit 8), (.mk [(4, (.v (.int .i64 (q)))), (22, (.v (.int .i64 (nn)))), (23, (.slc (.mk 0 117 0) [1, 42] 1 0 (zp) false)), (25, (.slc (.mk 0 125 0) [1, 52] 1 0 (zq) false)), (27, (.slc (.mk 0 133 0) [1, 62] 1 0 (zr) false)), (29, (.slc (.mk 0 140 0) [1, 71] 1 0 (za) false)), (31, (.slc (.mk 0 147 0) [1, 80] 1 0 (zv) false)), (34, (.slc (.mk 0 208 0) [1, 146] 1 0 (zt) false)), (35, (.slc (.mk 0 215 0) [1, 155] 1 0 (zu) false)), (36, (.v (.int .i64 ((↑i : Int))))), (37, (.cpx (z.fst) (z.snd))), (38, (.v (.int .i64 ((↑k : Int)))))] [((.mk 0 117 0), (.mk [1, 42] (List.map celC yp) 1 true)), ((.mk 0 125 0), (.mk [1, 52] (List.map celC yq) 1 true)), ((.mk 0 133 0), (.mk [1, 62] (List.map celC yr) 1 true)), ((.mk 0 140 0), (.mk [1, 71] (List.map celC ya) 1 true)), ((.mk 0 147 0), (.mk [1, 80] (List.map celC yv) 1 true)), ((.mk 0 208 0), (.mk [1, 146] (List.map celC yt) 1 true)), ((.mk 0 215 0), (.mk [1, 155] (List.map celC yu) 1 true))] 0)) :=
  rndD_sound (q := [((some 252), (Dec.b false))]) (by kernel_rfl) (hbLwLnA h0 hnLwLnA)
end Go.Proofs.Ytnphdnokedhhkaa.Fw
namespace Go.Proofs.Ytnphdnokedhhkaa.Fw
open Go Go.RowKit

end Go.Proofs.Ytnphdnokedhhkaa.Fw
namespace Go.Proofs.Ytnphdnokedhhkaa.Fw
open Go Go.RowKit

end Go.Proofs.Ytnphdnokedhhkaa.Fw
namespace Go.Proofs.Ytnphdnokedhhkaa.Fw
open Go Go.RowKit
section
variable {L n : Nat}
end
end Go.Proofs.Ytnphdnokedhhkaa.Fw
namespace Go.Proofs.Ytnphdnokedhhkaa.Fw
open Go Go.RowKit
theorem ciL (a b c : CI) : timI a (addI b c) = addI (timI a b) (timI a c) := by
  unfold timI addI; simp only [Prod.mk.injEq]; constructor <;> grind
theorem ciX (a b c d : CI) : addI (addI a b) (addI c d) = addI (addI a c) (addI b d) := by
  unfold addI; simp only [Prod.mk.injEq]; constructor <;> omega
/-- a sum of products -/
def smI (h F : Nat → CI) : Nat → CI
  | 0 => (0, 0)
  | k + 1 => addI (smI h F k) (timI (h k) (F k))
theorem conv_sm {h : Nat → CI} {x : Int → CI} {ap : Nat} {at' : Int} : ∀ k, conv h x ap at' k = smI h (fun j => x (at' - (j * ap : Nat))) k
  | 0 => rfl
  | k + 1 => by
    show addI (conv h x ap at' k) _ = addI (smI h _ k) _
    rw [conv_sm k]
theorem sm_congr {h g F G : Nat → CI} : ∀ k, (∀ j, j < k → h j = g j) → (∀ j, j < k → F j = G j) → smI h F k = smI g G k
  | 0, _, _ => rfl
  | k + 1, hh, hx => by
    show addI (smI h F k) (timI (h k) (F k)) = addI (smI g G k) (timI (g k) (G k))
    rw [sm_congr k (fun j hj => hh j (by omega)) (fun j hj => hx j (by omega)), hh k (by omega), hx k (by omega)]
end Go.Proofs.Ytnphdnokedhhkaa.Fw
