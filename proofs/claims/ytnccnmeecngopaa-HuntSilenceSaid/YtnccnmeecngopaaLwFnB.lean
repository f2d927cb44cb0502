/- HuntFinds: hunt.Find and the document's Find find the same, whatever the row. -/
import Derived.Test.YtnccnmeecngopaaLwFnA
set_option maxRecDepth 100000
set_option maxHeartbeats 4000000
set_option linter.unusedSimpArgs false
set_option linter.unusedVariables false
namespace Go.Proofs.Ytnccnmeecngopaa.Fw
open Go Go.RowKit
def loud (a b : Nat) (lost : Bool) : Bool := !lost && (fge (absF a) 4625196817309499392 || fge (absF b) 4625196817309499392)
def fSize (m : Nat) : Nat := bif fge (absF m) 4636455816377925632 then 4607182418800017408 else bif fge (absF m) 4631952216750555136 then 4602678819172646912 else 4598175219545276416
def fQ (u neg : Bool) : Int := match u, neg with | false, false => 0 | false, true => 2 | true, false => 1 | true, true => 3
def outcome (at_ : Int) (a b : Nat) (u : Bool) : AV := .tup [.agg [.int .i64 at_, .flt (bif u then fSize b else fSize a), .int .i64 (fQ u (bif u then flt b 0 else flt a 0))], .int .i64 0]
def useD (a b : Nat) : Bool := fgt (absF b) (absF a) || !feq a a
def useE (a b : Nat) : Bool := !fge (absF a) (absF b) && fge (absF b) 4625196817309499392
theorem fge_size (a c : Nat) : fge (sizeF a) c = fge (absF a) c := by
  rw [fge_rk, fge_rk, (sizeF_rk a).1, (sizeF_rk a).2, (absF_rk a).1, (absF_rk a).2]
theorem fge_size2 (a b : Nat) : fge (sizeF a) (sizeF b) = fge (absF a) (absF b) := by
  rw [fge_rk, fge_rk, (sizeF_rk a).1, (sizeF_rk a).2, (absF_rk a).1, (absF_rk a).2, (sizeF_rk b).1, (sizeF_rk b).2, (absF_rk b).1, (absF_rk b).2]
theorem use_same {a b : Nat} {lost : Bool} (h : loud a b lost = true) : useD a b = useE a b := by
  have h16 : isNaN 4625196817309499392 = false := by decide
  unfold loud at h
  unfold useD useE
  rw [fge_rk, fge_rk, (absF_rk a).1, (absF_rk a).2, (absF_rk b).1, (absF_rk b).2, h16] at h
  rw [fgt_rk, fge_rk, fge_rk, feq_rk, (absF_rk a).1, (absF_rk a).2, (absF_rk b).1, (absF_rk b).2, h16]
  generalize rk 4625196817309499392 = K at *
  generalize ((rk a).natAbs : Int) = A at *
  generalize ((rk b).natAbs : Int) = B at *
  generalize isNaN a = na at *
  generalize isNaN b = nb at *
  cases na <;> cases nb <;> cases lost <;> (try simp at h ⊢) <;>
    (try (by_cases h1 : A < B <;> by_cases h2 : K ≤ B <;> by_cases h3 : K ≤ A <;> by_cases h4 : B ≤ A <;> simp [h1, h2, h3, h4] at h ⊢ <;> omega))
section
variable {L n : Nat}
theorem fd_eq {fr : Int} {els : List (List AV)} {i : Nat} {a b : Nat} {lost : Bool} {π : List Nat} (hi : i < els.length) :
    fd L n fr els i a b lost π = bif loud a b lost then .out (outcome (IntKind.wrap .i64 (fr + i)) a b (useD a b)) else .go .nrm ⟨[(1, .int .i64 fr), (6, .ptr ⟨0,6,0⟩ [0] 0 0), (36, .lst 2 els), (37, .int .i64 els.length), (38, .int .i64 (IntKind.wrap .i64 ((i : Int) + 1)))], [(⟨0,6,0⟩, ⟨[0], [[.int .i64 0, .flt 0, .int .i64 0]], 3, true⟩)], 0⟩ := by
  have hlt : decide ((i : Int) < (els.length : Int)) = true := by simpa using hi
  unfold fd
  rw [if_pos hlt]
  unfold loud outcome useD fSize
  generalize fge (absF a) 4625196817309499392 = x1
  generalize fge (absF b) 4625196817309499392 = x2
  generalize fge (absF a) 4636455816377925632 = x3
  generalize fge (absF b) 4636455816377925632 = x4
  generalize fge (absF a) 4631952216750555136 = x5
  generalize fge (absF b) 4631952216750555136 = x6
  generalize fgt (absF b) (absF a) = x7
  generalize feq a a = x8
  generalize flt a 0 = x9
  generalize flt b 0 = x10
  exact by (cases lost <;> first | rfl | (cases x1 <;> first | rfl | (cases x2 <;> first | rfl | (cases x7 <;> first | rfl | (cases x8 <;> first | rfl | (cases x9 <;> first | rfl | (cases x10 <;> first | rfl | (cases x3 <;> first | rfl | (cases x4 <;> first | rfl | (cases x5 <;> first | rfl | (cases x6 <;> first | rfl | rfl)))))))))))
theorem fe_eq {tt i : Int} {k : Nat} {els : List (List AV)} {a b : Nat} {lost : Bool} {π : List Nat} (hi : i < tt) :
    fe L n tt i k els a b lost π = bif loud a b lost then .out (outcome i a b (useE a b)) else .go .nrm ⟨[(0, .lst 2 els), (2, .int .i64 tt), (6, .ptr ⟨0,6,0⟩ [0] 0 0), (8, .int .i64 (IntKind.wrap .i64 (i + 1)))], [(⟨0,6,0⟩, ⟨[0], [[.int .i64 0, .flt 0, .int .i64 0]], 3, true⟩)], 0⟩ := by
  have hlt : decide (i < tt) = true := by simpa using hi
  unfold fe
  rw [if_pos hlt]
  simp only [fge_size2]
  simp only [fge_size]
  unfold loud outcome useE fSize
  generalize fge (absF a) 4625196817309499392 = x1
  generalize fge (absF b) 4625196817309499392 = x2
  generalize fge (absF a) 4636455816377925632 = x3
  generalize fge (absF b) 4636455816377925632 = x4
  generalize fge (absF a) 4631952216750555136 = x5
  generalize fge (absF b) 4631952216750555136 = x6
  generalize fge (absF a) (absF b) = x7
  generalize flt a 0 = x9
  generalize flt b 0 = x10
  exact by (cases lost <;> first | rfl | (cases x1 <;> first | rfl | (cases x2 <;> first | rfl | (cases x7 <;> first | rfl | (cases x9 <;> first | rfl | (cases x10 <;> first | rfl | (cases x3 <;> first | rfl | (cases x4 <;> first | rfl | (cases x5 <;> first | rfl | (cases x6 <;> first | rfl | rfl))))))))))
end
end Go.Proofs.Ytnccnmeecngopaa.Fw
