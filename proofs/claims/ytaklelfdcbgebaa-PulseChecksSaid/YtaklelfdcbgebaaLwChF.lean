/- PulseChecks holds for all plain arguments. -/
import Derived.Test.YtaklelfdcbgebaaLwChE
set_option maxRecDepth 100000
set_option maxHeartbeats 4000000
set_option linter.unusedSimpArgs false
set_option linter.unusedVariables false
namespace Go.Proofs.Ytaklelfdcbgebaa.Fw
open Go Go.RowKit
/-- a list, overwritten one after the other -/
def ovr (us : List Nat) : Nat → List Nat
  | 0 => us
  | i + 1 => (ovr us i).set i 4621256167635550208
theorem ovr_len {us : List Nat} : ∀ {i : Nat}, (ovr us i).length = us.length
  | 0 => rfl
  | i + 1 => by rw [ovr, List.length_set]; exact ovr_len
theorem trnL_len (rate fore : Int) (ts : List Nat) : (trnL rate fore ts).length ≤ 64 := by
  unfold trnL
  split
  · rename_i h; obtain ⟨_, _, _, _, h5, _⟩ := chkF_ok h; rw [List.length_reverse]; exact h5
  · simp
theorem strL_len (rate fore : Int) (ts : List Nat) (m : Int) : (strL rate fore ts m).length ≤ 64 := by
  unfold strL
  split
  · rename_i h
    unfold strC at h
    split at h
    · rename_i h1; exact absurd h h1
    · rename_i h1
      have h0 : chkF rate fore ts = 0 := by simpa using h1
      obtain ⟨_, _, _, h4, _⟩ := chkF_ok h0
      split at h
      · cases h
      · rename_i h2
        split at h
        · cases h
        · rename_i h3
          obtain ⟨M, rfl⟩ : ∃ M : Nat, m = M := ⟨m.toNat, by omega⟩
          rw [gS_len, Int.toNat_natCast]
          have : ((ts.length : Int) - 1) * (M : Int) + 1 = (((ts.length - 1) * M + 1 : Nat) : Int) := by
            rw [show (ts.length : Int) - 1 = ((ts.length - 1 : Nat) : Int) by omega, ← Int.natCast_mul]; omega
          omega
  · simp
section
variable {L n : Nat} {rate fore at1 m : Int} {xs : List Int} {odd : Nat}
theorem ovr_loop1 {r f ra fa rc fc : Int} {ms ws az cs : List Nat} {lo lc : Nat} (hm : az.length ≤ 64) (hL : 64 ≤ L) :
    Con.holds ⟨fnOf, specT, L+1⟩ (runF ⟨fnOf, specT, L+1⟩ n) (.loop 0 [5, 6, 7, 11, 15] m6b1 [80] (plS r f ms ws lo ra fa az az.length rc fc cs lc 0) (.exit 0) (plS r f ms ws lo ra fa (ovr az az.length) az.length rc fc cs lc az.length)) := by
  refine loop0 (fun i => plS r f ms ws lo ra fa (ovr az i) az.length rc fc cs lc i) az.length rfl (by omega) (fun i hi => ?_) ?_ (by simp)
  · have hw := wrapUp hi (by omega)
    have ha : Con.holds ⟨fnOf, specT, L+1⟩ (runF ⟨fnOf, specT, L+1⟩ n) (.at ((ovr az i).map celF) (0 + i) [.flt ((ovr az i).getD i 0)]) := by
      rw [Nat.zero_add]; exact atD_map (f := celF) (by rw [ovr_len]; exact hi)
    have := @pr1_0 (L+1) n r f ra fa rc fc ms ws (ovr az i) cs [] lo az.length lc i 0 [80] i _ (dLt hi) (ix_at hi) ha
    rw [hw, Nat.zero_add] at this
    rw [this]
    unfold plS plH
    rw [ovr, List.map_set]
    rfl
  · exact @pr1_1 (L+1) n r f ra fa rc fc ms ws (ovr az az.length) cs [] lo az.length lc az.length 0 [80] dNlt
theorem ovr_loop2 {r f rc fc : Int} {ms ws cs : List Nat} {lo : Nat} (hm : cs.length ≤ 64) (hL : 64 ≤ L) :
    Con.holds ⟨fnOf, specT, L+1⟩ (runF ⟨fnOf, specT, L+1⟩ n) (.loop 0 [5, 6, 11, 16] m6b0 [82] (plT r f ms ws lo rc fc cs cs.length 0) (.exit 2) (plT r f ms ws lo rc fc (ovr cs cs.length) cs.length cs.length)) := by
  refine loop0 (fun i => plT r f ms ws lo rc fc (ovr cs i) cs.length i) cs.length rfl (by omega) (fun i hi => ?_) ?_ (by simp)
  · have hw := wrapUp hi (by omega)
    have ha : Con.holds ⟨fnOf, specT, L+1⟩ (runF ⟨fnOf, specT, L+1⟩ n) (.at ((ovr cs i).map celF) (0 + i) [.flt ((ovr cs i).getD i 0)]) := by
      rw [Nat.zero_add]; exact atD_map (f := celF) (by rw [ovr_len]; exact hi)
    have := @pr2_0 (L+1) n r f 0 0 rc fc ms ws [] (ovr cs i) [] lo 0 cs.length i 0 [82] i _ (dLt hi) (ix_at hi) ha
    rw [hw, Nat.zero_add] at this
    rw [this]
    unfold plT
    rw [ovr, List.map_set]
    rfl
  · exact @pr2_1 (L+1) n r f 0 0 rc fc ms ws [] (ovr cs cs.length) [] lo 0 cs.length cs.length 0 [82] dNlt
theorem law_checks (hm : xs.length ≤ 17592186044415) (hL : xs.length + 100 ≤ L) :
    den ⟨fnOf, specT, L+1⟩ (n+2) 6 [.agg [.int .i64 rate, .int .i64 fore, .lst 1 (xs.map celI), .flt odd, .int .i64 at1], .int .i64 m] = some (.v (.bool true)) := by
  have h0 := @made_den specT L n rate fore at1 odd xs hm (by omega)
  have htl : (mdL at1 odd xs xs.length).length = xs.length := mdL_len
  generalize mdL at1 odd xs xs.length = ts at h0 htl
  have ec : cutX (ts.map celF) 0 (List.length (ts.map celF)) = ts.map celF := cutAll
  have hA := trnL_len rate fore ts
  have hB := strL_len rate fore ts m
  have sA := @same_den specT L n (trnL rate fore ts) (trnF rate fore ts).1 (trnF rate fore ts).2.1 (by omega) (by omega) (trnL_self rate fore ts)
  have sB := @same_den specT L n (strL rate fore ts m) (if strC rate fore ts m = 0 then rate * m else 0) (if strC rate fore ts m = 0 then fore * m else 0) (by omega) (by omega) (strL_self rate fore ts m)
  have sT := @sameTaps_den specT L n ts (by omega) (by omega)
  have t1 := spec_is (P := ⟨fnOf, specT, L+1⟩) (C := runF ⟨fnOf, specT, L+1⟩ (n+1)) (f := 24) rfl (trnSem_at rate fore ts)
  have t2 := spec_is (P := ⟨fnOf, specT, L+1⟩) (C := runF ⟨fnOf, specT, L+1⟩ (n+1)) (f := 25) rfl (trnSem_at rate fore ts)
  have t3 := spec_is (P := ⟨fnOf, specT, L+1⟩) (C := runF ⟨fnOf, specT, L+1⟩ (n+1)) (f := 26) rfl (strSem_at rate fore ts m)
  have t4 := spec_is (P := ⟨fnOf, specT, L+1⟩) (C := runF ⟨fnOf, specT, L+1⟩ (n+1)) (f := 27) rfl (strSem_at rate fore ts m)
  have t5 := spec_is (P := ⟨fnOf, specT, L+1⟩) (C := runF ⟨fnOf, specT, L+1⟩ (n+1)) (f := 28) rfl (chkSem_at rate fore ts)
  have t6 := spec_is (P := ⟨fnOf, specT, L+1⟩) (C := runF ⟨fnOf, specT, L+1⟩ (n+1)) (f := 29) rfl (chkSem_at rate fore ts)
  unfold trnA at t1 t2
  unfold strA at t3 t4
  have l1 := @ovr_loop1 L (n+1) rate fore (trnF rate fore ts).1 (trnF rate fore ts).2.1 (if strC rate fore ts m = 0 then rate * m else 0) (if strC rate fore ts m = 0 then fore * m else 0) ts ts (trnL rate fore ts) (strL rate fore ts m) (List.length (ts.map celF)) (strL rate fore ts m).length hA (by omega)
  have l2 := @ovr_loop2 L (n+1) rate fore (if strC rate fore ts m = 0 then rate * m else 0) (if strC rate fore ts m = 0 then fore * m else 0) ts ts (strL rate fore ts m) (List.length (ts.map celF)) hB (by omega)
  generalize (trnF rate fore ts).1 = ra at *
  generalize (trnF rate fore ts).2.1 = fa at *
  generalize (trnF rate fore ts).2.2 = ea at *
  generalize (if strC rate fore ts m = 0 then rate * m else 0) = rc at *
  generalize (if strC rate fore ts m = 0 then fore * m else 0) = fc at *
  generalize strC rate fore ts m = e2 at *
  generalize trnL rate fore ts = az at *
  generalize strL rate fore ts m = cs at *
  generalize chkF rate fore ts = ch at *
  have ea1 : cutX (az.map celF) 0 (List.length (az.map celF)) = az.map celF := cutAll
  have ec1 : cutX (cs.map celF) 0 (List.length (cs.map celF)) = cs.map celF := cutAll
  have k1 := call_den sA
  have k2 := call_den sB
  have k3 := call_den sT
  have hcat : Con.holds ⟨fnOf, specT, L+1⟩ (runF ⟨fnOf, specT, L+1⟩ (n+1)) (.cat 1 8 true (ts.map celF)) := catF_ok (by simp only [most]; omega)
  have hca : (az.map celF).length = az.length := map_len
  have hcc : (cs.map celF).length = cs.length := map_len
  have no0 : (!true) = false := rfl
  exact @pl_6 (L+1) (n+1) rate fore at1 m xs odd rate fore ra fa rc fc ts ts (ovr az az.length) cs (ovr cs cs.length) (List.length (ts.map celF)) az.length cs.length az.length cs.length
    rate fore ts ra fa az ea ra fa az ea rc fc cs e2 rc fc cs e2 ch ch true true true true
    (call_den h0) (by rw [ec]; exact hcat) leOut (by rw [ec]; exact t1) (by rw [ec]; exact t2) (by rw [ec]; exact t3) (by rw [ec]; exact t4) (by rw [ec]; exact t5) (by rw [ec]; exact t6) bneSame
    (by rw [ea1]; exact k1) leOut leOut no0 bneSame (by rw [ec1]; exact k2) leOut leOut no0 bneSame (by rw [ec, ec]; exact k3) (by rw [ec]; exact leOut) no0
    (by rw [ec, hca, hcc]; exact l1) (by exact l2) (by rw [ec]; exact k3) leOut leOut
end
end Go.Proofs.Ytaklelfdcbgebaa.Fw
