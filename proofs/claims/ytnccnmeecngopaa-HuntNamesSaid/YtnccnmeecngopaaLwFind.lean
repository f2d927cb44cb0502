/- hunt.Find in silence: nothing is found, however long the row. -/
import Derived.Test.YtnccnmeecngopaaFwY
import Derived.Test.YtnccnmeecngopaaFwAbs
import Derived.Test.YtnccnmeecngopaaFwDx
import Derived.KernelRfl
set_option maxRecDepth 100000
set_option maxHeartbeats 4000000
set_option linter.unusedSimpArgs false
set_option linter.unusedVariables false
namespace Go.Proofs.Ytnccnmeecngopaa.Fw
open Go Go.RowKit
theorem wrap_nat {i m : Nat} (h : i < m) (hm : m ≤ 65536) : IntKind.wrap .i64 ((i : Int) + 1) = ((i + 1 : Nat) : Int) := by
  rw [wrap_id (by omega)]; rfl
theorem idx_nat {i m : Nat} (h : i < m) : idx (.int .i64 i) m = some i := by
  simp only [idx]; rw [if_pos (by omega)]; simp
/-- a sample that is no marker -/
def quiet (a b : Nat) (lost : Bool) : Prop := lost = true ∨ (fge (absF a) 4625196817309499392 = false ∧ fge (absF b) 4625196817309499392 = false)
def QuietEl (e : List AV) : Prop := ∃ a b lost, e = [.cpx a b, .v (.bool lost)] ∧ quiet a b lost
section
variable {L n : Nat}
def FindSt (st : List Nat) (fr : Int) (els : List (List AV)) (i : Nat) : St :=
  ⟨[(1, .int .i64 fr), (6, .ptr ⟨0,6,0⟩ st 0 0), (36, .lst 2 els), (37, .int .i64 els.length), (38, .int .i64 i)], [(⟨0,6,0⟩, ⟨st, [[.int .i64 0, .flt 0, .int .i64 0]], 3, true⟩)], 0⟩
theorem find_round {st π : List Nat} {fr : Int} {els : List (List AV)} {i : Nat} (hi : i < els.length) (hl : els.length ≤ 65536) (hq : QuietEl els[i]) :
    nxt 0 [1, 6, 36, 37, 38] (bodyOf ⟨fnOf, specAbs, L⟩ (runF ⟨fnOf, specAbs, L⟩ n) 0 m19b0 (i :: π) (FindSt st fr els i)) = some (FindSt st fr els (i + 1)) := by
  obtain ⟨a, b, lost, he, hq⟩ := hq
  have hget : els[i]? = some [.cpx a b, .v (.bool lost)] := by rw [List.getElem?_eq_getElem hi, he]
  have hb : decide ((i : Int) < (els.length : Int)) = true := by rw [decide_eq_true_eq]; omega
  have hel : Con.holds ⟨fnOf, specAbs, L⟩ (runF ⟨fnOf, specAbs, L⟩ n) (.el els (.int .i64 i) [.cpx a b, .v (.bool lost)]) := ⟨i, idx_nat hi, hget⟩
  have hw := wrap_nat hi hl
  have hq' := hq
  clear hget he hq
  unfold FindSt
  rw [← hw]
  generalize els.length = m at *
  have hz : Con.holds ⟨fnOf, specAbs, L⟩ (runF ⟨fnOf, specAbs, L⟩ n) (.st (4 :: i :: π) (4 :: i :: π)) := rfl
  cases lost with
  | true =>
    have hd : nxtD ⟨fnOf, specAbs, L⟩ (runF ⟨fnOf, specAbs, L⟩ n) 0 [1, 6, 36, 37, 38] m19b0 (i :: π) ⟨[(1, .int .i64 fr), (6, .ptr ⟨0,6,0⟩ st 0 0), (36, .lst 2 els), (37, .int .i64 m), (38, .int .i64 i)], [(⟨0,6,0⟩, ⟨st, [[.int .i64 0, .flt 0, .int .i64 0]], 3, true⟩)], 0⟩ [(some 39, .b true), (some 41, .el [.cpx a b, .v (.bool true)])] =
      some (⟨[(1, .int .i64 fr), (6, .ptr ⟨0,6,0⟩ st 0 0), (36, .lst 2 els), (37, .int .i64 m), (38, .int .i64 (IntKind.wrap .i64 ((i : Int) + 1)))], [(⟨0,6,0⟩, ⟨st, [[.int .i64 0, .flt 0, .int .i64 0]], 3, true⟩)], 0⟩,
        [.b (decide ((i : Int) < (m : Int))) true, .el els (.int .i64 i) [.cpx a b, .v (.bool true)], .st (4 :: i :: π) (4 :: i :: π), .st (4 :: i :: π) (4 :: i :: π), .st (4 :: i :: π) (4 :: i :: π), .st (4 :: i :: π) (4 :: i :: π)]) := by kernel_rfl
    exact nxtD_sound hd ⟨hb, hel, hz, hz, hz, hz, trivial⟩
  | false =>
    obtain ⟨q1, q2⟩ : fge (absF a) 4625196817309499392 = false ∧ fge (absF b) 4625196817309499392 = false := by
      rcases hq' with h | h
      · cases h
      · exact h
    have hd : nxtD ⟨fnOf, specAbs, L⟩ (runF ⟨fnOf, specAbs, L⟩ n) 0 [1, 6, 36, 37, 38] m19b0 (i :: π) ⟨[(1, .int .i64 fr), (6, .ptr ⟨0,6,0⟩ st 0 0), (36, .lst 2 els), (37, .int .i64 m), (38, .int .i64 i)], [(⟨0,6,0⟩, ⟨st, [[.int .i64 0, .flt 0, .int .i64 0]], 3, true⟩)], 0⟩ [(some 39, .b true), (some 41, .el [.cpx a b, .v (.bool false)]), (some 54, .b false), (some 58, .b false)] =
      some (⟨[(1, .int .i64 fr), (6, .ptr ⟨0,6,0⟩ st 0 0), (36, .lst 2 els), (37, .int .i64 m), (38, .int .i64 (IntKind.wrap .i64 ((i : Int) + 1)))], [(⟨0,6,0⟩, ⟨st, [[.int .i64 0, .flt 0, .int .i64 0]], 3, true⟩)], 0⟩,
        [.b (decide ((i : Int) < (m : Int))) true, .el els (.int .i64 i) [.cpx a b, .v (.bool false)], .st (4 :: i :: π) (4 :: i :: π), .st (4 :: i :: π) (4 :: i :: π), .st (4 :: i :: π) (4 :: i :: π), .st (4 :: i :: π) (4 :: i :: π),
          .b (fge (absF a) 4625196817309499392) false, .b (fge (absF b) 4625196817309499392) false]) := by kernel_rfl
    exact nxtD_sound hd ⟨hb, hel, hz, hz, hz, hz, q1, q2, trivial⟩

theorem find_quiet {els : List (List AV)} {fr to : Nat} (hl : els.length ≤ 65536) (h1 : fr ≤ to) (h2 : to ≤ els.length) (hq : ∀ e ∈ (els.take to).drop fr, QuietEl e) :
    den ⟨fnOf, specAbs, L+65537⟩ (n+1) 19 [.lst 2 els, .int .i64 fr, .int .i64 to] = some (.tup [.agg [.int .i64 0, .flt 0, .int .i64 0], .int .i64 6]) := by
  have hsub : ((els.take to).drop fr).length ≤ 65536 := by simp; omega
  have hsl : Con.holds ⟨fnOf, specAbs, L+65537⟩ (runF ⟨fnOf, specAbs, L+65537⟩ n) (.any 0 [23] ⟨some 36, .slice (some 2) (.t 33) (some (.t 34)) (some (.t 35)) none, none, []⟩ [(33, .lst 2 els), (34, .int .i64 fr), (35, .int .i64 to)] [(⟨0,6,0⟩, ⟨[0], [[.int .i64 0, .flt 0, .int .i64 0]], 3, true⟩)] (.lst 2 ((els.take to).drop fr)) [(⟨0,6,0⟩, ⟨[0], [[.int .i64 0, .flt 0, .int .i64 0]], 3, true⟩)]) := by
    have h3 : (to : Int) ≤ (els.length : Int) := by omega
    have h4 : (fr : Int) ≤ (to : Int) := by omega
    simp [Con.holds, stepOp, opSem, Opd.ev, Env.get, sliceSem, optEv, bnd, h2, h1]
  have b1 : decide ((els.length : Int) > 65536) = false := by rw [decide_eq_false_iff_not]; omega
  have b2 : decide ((fr : Int) < 0) = false := by rw [decide_eq_false_iff_not]; omega
  have b3 : decide ((fr : Int) > (to : Int)) = false := by rw [decide_eq_false_iff_not]; omega
  have b4 : decide ((to : Int) > (els.length : Int)) = false := by rw [decide_eq_false_iff_not]; omega
  generalize hs : (els.take to).drop fr = sub at *
  have hlp : LP (bodyOf ⟨fnOf, specAbs, L+65537⟩ (runF ⟨fnOf, specAbs, L+65537⟩ n) 0 m19b0) 0 [1, 6, 36, 37, 38] [26] (L + 65536) 0 (FindSt [0] fr sub 0) =
      some (.exit 0, ⟨(39, .v (.bool false)) :: (FindSt [0] fr sub sub.length).env, (FindSt [0] fr sub sub.length).H, 1⟩) := by
    refine LP_go (FindSt [0] fr sub) sub.length (by omega) (fun i hi => ?_) ?_ (by simp)
    · rw [Nat.zero_add]
      exact find_round hi hsub (hq _ (List.getElem_mem hi))
    · rw [Nat.zero_add]
      unfold FindSt
      generalize sub.length = m
      have hb : decide ((m : Int) < (m : Int)) = false := by simp
      have hd : codeD ⟨fnOf, specAbs, L+65537⟩ (runF ⟨fnOf, specAbs, L+65537⟩ n) 0 m19b0 (m :: [26]) ⟨[(1, .int .i64 fr), (6, .ptr ⟨0,6,0⟩ [0] 0 0), (36, .lst 2 sub), (37, .int .i64 m), (38, .int .i64 m)], [(⟨0,6,0⟩, ⟨[0], [[.int .i64 0, .flt 0, .int .i64 0]], 3, true⟩)], 0⟩ [(some 39, .b false)] =
        some (.exit 0, ⟨(39, .v (.bool false)) :: [(1, .int .i64 fr), (6, .ptr ⟨0,6,0⟩ [0] 0 0), (36, .lst 2 sub), (37, .int .i64 m), (38, .int .i64 m)], [(⟨0,6,0⟩, ⟨[0], [[.int .i64 0, .flt 0, .int .i64 0]], 3, true⟩)], 1⟩, [], [.b (decide ((m : Int) < (m : Int))) false]) := by kernel_rfl
      exact codeD_sound hd ⟨hb, trivial⟩
  have hd : denD ⟨fnOf, specAbs, L+65537⟩ n 19 [.lst 2 els, .int .i64 fr, .int .i64 to] [(some 16, .b false), (some 19, .b false), (some 24, .b false), (some 30, .b false), (some 36, .any (.lst 2 sub) [(⟨0,6,0⟩, ⟨[0], [[.int .i64 0, .flt 0, .int .i64 0]], 3, true⟩)]),
      (some 100000, .loop (.exit 0) ⟨(39, .v (.bool false)) :: (FindSt [0] fr sub sub.length).env, (FindSt [0] fr sub sub.length).H, 1⟩)] =
      some (.tup [.agg [.int .i64 0, .flt 0, .int .i64 0], .int .i64 6], [.b (decide ((els.length : Int) > 65536)) false, .b (decide ((fr : Int) < 0)) false, .b (decide ((fr : Int) > (to : Int))) false, .b (decide ((to : Int) > (els.length : Int))) false,
        .any 0 [23] ⟨some 36, .slice (some 2) (.t 33) (some (.t 34)) (some (.t 35)) none, none, []⟩ [(33, .lst 2 els), (34, .int .i64 fr), (35, .int .i64 to)] [(⟨0,6,0⟩, ⟨[0], [[.int .i64 0, .flt 0, .int .i64 0]], 3, true⟩)] (.lst 2 sub) [(⟨0,6,0⟩, ⟨[0], [[.int .i64 0, .flt 0, .int .i64 0]], 3, true⟩)],
        .loop 0 [1, 6, 36, 37, 38] m19b0 [26] (FindSt [0] fr sub 0) (.exit 0) ⟨(39, .v (.bool false)) :: (FindSt [0] fr sub sub.length).env, (FindSt [0] fr sub sub.length).H, 1⟩, .st [0] [0]]) := by kernel_rfl
  exact denD_sound hd ⟨b1, b2, b3, b4, hsl, ⟨_, rfl, hlp⟩, rfl, trivial⟩
theorem find_long {els : List (List AV)} {fr to : Int} (hl : 65536 < els.length) : den ⟨fnOf, specAbs, L⟩ (n+1) 19 [.lst 2 els, .int .i64 fr, .int .i64 to] = some (.tup [.agg [.int .i64 0, .flt 0, .int .i64 0], .int .i64 1]) := by
  have hd : denD ⟨fnOf, specAbs, L⟩ n 19 [.lst 2 els, .int .i64 fr, .int .i64 to] [(some 16, .b true)] = some (.tup [.agg [.int .i64 0, .flt 0, .int .i64 0], .int .i64 1], [.b (decide ((els.length : Int) > 65536)) true, .st [0] [0]]) := by kernel_rfl
  exact denD_sound hd ⟨by simp only [Con.holds, decide_eq_true_eq]; omega, rfl, trivial⟩
end
end Go.Proofs.Ytnccnmeecngopaa.Fw
