/- grid.Near and grid.Door: what they answer, whatever the numbers. -/
import Derived.Test.YtdflnngkdibdeaaFwY
import Derived.Test.YtdflnngkdibdeaaFwAbs
import Derived.Test.YtdflnngkdibdeaaFwDx
import Derived.KernelRfl
set_option maxRecDepth 100000
set_option maxHeartbeats 4000000
set_option linter.unusedSimpArgs false
set_option linter.unusedVariables false
namespace Go.Proofs.Ytdflnngkdibdeaa.Fw
open Go Go.RowKit

/-- not lost -/
def wi (a : Nat) : Bool := fge a 13875590451928498176 && fle a 4652218415073722368
def nearF (a : Nat) : Nat := fadd (fdiv (fint Ieee.Toward.even (fmul a 4661225614328463360)) 4661225614328463360) 0
def doorEl : List AV → List AV
  | [.cpx a b] => if wi a = true ∧ wi b = true then [.cpx (nearF a) (nearF b), .v (.bool false)] else [.cpx 0 0, .v (.bool true)]
  | x => x
section
variable {L n : Nat}
theorem within23 {a : Nat} : den ⟨fnOf, specAbs, L⟩ (n+1) 23 [.flt a] = some (.v (.bool (wi a))) := by
  unfold wi
  cases h : fge a 13875590451928498176 with
  | true =>
    have hd : denD ⟨fnOf, specAbs, L⟩ n 23 [.flt a] [(some 4, .b true)] = some (.v (.bool (fle a 4652218415073722368)), [.b (fge a 13875590451928498176) true]) := by kernel_rfl
    rw [denD_sound hd ⟨h, trivial⟩]; rfl
  | false =>
    have hd : denD ⟨fnOf, specAbs, L⟩ n 23 [.flt a] [(some 4, .b false)] = some (.v (.bool false), [.b (fge a 13875590451928498176) false]) := by kernel_rfl
    rw [denD_sound hd ⟨h, trivial⟩]; rfl
theorem near7 {a : Nat} : den ⟨fnOf, specAbs, L⟩ (n+2) 7 [.flt a] = some (.tup [.flt (if wi a = true then nearF a else 0), .v (.bool (wi a))]) := by
  have h23 := @within23 L n a
  cases h : wi a with
  | true =>
    rw [h] at h23
    have hd : denD ⟨fnOf, specAbs, L⟩ (n+1) 7 [.flt a] [(some 5, .call (.v (.bool true)))] = some (.tup [.flt (nearF a), .v (.bool true)], [.call 23 [.flt a] (.v (.bool true))]) := by kernel_rfl
    exact denD_sound hd ⟨h23, trivial⟩
  | false =>
    rw [h] at h23
    have hd : denD ⟨fnOf, specAbs, L⟩ (n+1) 7 [.flt a] [(some 5, .call (.v (.bool false)))] = some (.tup [.flt 0, .v (.bool false)], [.call 23 [.flt a] (.v (.bool false))]) := by kernel_rfl
    exact denD_sound hd ⟨h23, trivial⟩

/-- the state at a round's head -/
def DoorSt (els : List (List AV)) (i : Nat) (s : St) : Prop :=
  ∃ stp, s = ⟨[(4, .slc ⟨0,17,0⟩ stp 2 0 i false), (18, .lst 1 els), (19, .int .i64 els.length), (20, .int .i64 i)], [(⟨0,17,0⟩, ⟨stp, (els.take i).map doorEl, 2, true⟩)], 0⟩
theorem wrap_succ {i m : Nat} (h : i < m) (hm : m ≤ 65536) : IntKind.wrap .i64 ((i : Int) + 1) = ((i + 1 : Nat) : Int) := by
  rw [wrap_id (by omega)]; rfl
theorem idx_at {i m : Nat} (h : i < m) : idx (.int .i64 i) m = some i := by
  simp only [idx]; rw [if_pos (by omega)]; simp

theorem door_step {els : List (List AV)} (hl : els.length ≤ 65536) (hels : ∀ e ∈ els, ∃ a b, e = [.cpx a b]) {i : Nat} {s : St} (hi : i < els.length) (hI : DoorSt els i s) :
    ∃ s', nxt 0 [4, 18, 19, 20] (bodyOf ⟨fnOf, specAbs, L+1⟩ (runF ⟨fnOf, specAbs, L+1⟩ (n+2)) 0 m9b0 [i, 12] s) = some s' ∧ DoorSt els (i + 1) s' := by
  obtain ⟨stp, rfl⟩ := hI
  obtain ⟨a, b, he⟩ := hels _ (List.getElem_mem hi)
  have hget : els[i]? = some [.cpx a b] := by rw [List.getElem?_eq_getElem hi, he]
  have h7a := @near7 (L+1) n a
  have h7b := @near7 (L+1) n b
  have htake : (els.take (i + 1)).map doorEl = (els.take i).map doorEl ++ [doorEl [.cpx a b]] := by
    rw [List.take_add_one, hget]; simp
  have hlen : i = ((els.take i).map doorEl).length := by simp; omega
  have hb : (decide ((i : Int) < (els.length : Int))) = true := by simp; omega
  have hel : Con.holds ⟨fnOf, specAbs, L+1⟩ (runF ⟨fnOf, specAbs, L+1⟩ (n+2)) (.el els (.int .i64 i) [.cpx a b]) := ⟨i, idx_at hi, hget⟩
  generalize hacc : (els.take i).map doorEl = acc at *
  have hpush : i = acc.length ∧ (i + 1) * 24 ≤ most := ⟨hlen, by unfold most; omega⟩
  clear he
  generalize hm : els.length = m at *
  have fin : ∀ (cc : List AV) (k : Nat) (cs : List Con), nxtD ⟨fnOf, specAbs, L+1⟩ (runF ⟨fnOf, specAbs, L+1⟩ (n+2)) 0 [4, 18, 19, 20] m9b0 [i, 12] ⟨[(4, .slc ⟨0,17,0⟩ stp 2 0 i false), (18, .lst 1 els), (19, .int .i64 m), (20, .int .i64 i)], [(⟨0,17,0⟩, ⟨stp, acc, 2, true⟩)], 0⟩
        [(some 21, .b true), (some 22, .el [.cpx a b]), (some 27, .call (.tup [.flt (if wi a = true then nearF a else 0), .v (.bool (wi a))])), (some 33, .call (.tup [.flt (if wi b = true then nearF b else 0), .v (.bool (wi b))])), (some 48, .push)] =
        some (⟨[(4, .slc ⟨0,17,0⟩ [k, i, 12] 2 0 (i + 1) false), (18, .lst 1 els), (19, .int .i64 m), (20, .int .i64 (IntKind.wrap .i64 ((i : Int) + 1)))], [(⟨0,17,0⟩, ⟨[k, i, 12], acc ++ [cc], 2, true⟩)], 0⟩, cs) →
      Holds ⟨fnOf, specAbs, L+1⟩ (runF ⟨fnOf, specAbs, L+1⟩ (n+2)) cs → cc = doorEl [.cpx a b] →
      ∃ s', nxt 0 [4, 18, 19, 20] (bodyOf ⟨fnOf, specAbs, L+1⟩ (runF ⟨fnOf, specAbs, L+1⟩ (n+2)) 0 m9b0 [i, 12] ⟨[(4, .slc ⟨0,17,0⟩ stp 2 0 i false), (18, .lst 1 els), (19, .int .i64 m), (20, .int .i64 i)], [(⟨0,17,0⟩, ⟨stp, acc, 2, true⟩)], 0⟩) = some s' ∧ DoorSt els (i + 1) s' := by
    intro cc k cs hd hc hcc
    refine ⟨_, nxtD_sound hd hc, [k, i, 12], ?_⟩
    rw [htake, ← hcc, hm, wrap_succ (by omega) hl]
  cases ha : wi a with
  | true =>
    cases hbb : wi b with
    | true =>
      rw [ha] at fin h7a
      rw [hbb] at fin h7b
      refine fin [.cpx (nearF a) (nearF b), .v (.bool false)] 35 [.b (decide ((i : Int) < (m : Int))) true, .el els (.int .i64 i) [.cpx a b], .call 7 [.flt a] (.tup [.flt (nearF a), .v (.bool true)]), .call 7 [.flt b] (.tup [.flt (nearF b), .v (.bool true)]),
        .st [21, i, 12] [21, i, 12], .st [21, i, 12] [21, i, 12], .st [21, i, 12] [21, i, 12], .st stp stp, .push i 1 24 acc, .st [34, i, 12] [34, i, 12]] (by kernel_rfl) ?_ ?_
      · exact ⟨hb, hel, h7a, h7b, rfl, rfl, rfl, rfl, hpush, rfl, trivial⟩
      · simp [doorEl, ha, hbb]
    | false =>
      rw [ha] at fin h7a
      rw [hbb] at fin h7b
      refine fin [.cpx 0 0, .v (.bool true)] 30 [.b (decide ((i : Int) < (m : Int))) true, .el els (.int .i64 i) [.cpx a b], .call 7 [.flt a] (.tup [.flt (nearF a), .v (.bool true)]), .call 7 [.flt b] (.tup [.flt 0, .v (.bool false)]),
        .st [21, i, 12] [21, i, 12], .st [21, i, 12] [21, i, 12], .st stp stp, .push i 1 24 acc, .st [29, i, 12] [29, i, 12]] (by kernel_rfl) ?_ ?_
      · exact ⟨hb, hel, h7a, h7b, rfl, rfl, rfl, hpush, rfl, trivial⟩
      · simp [doorEl, ha, hbb]
  | false =>
    have fb : ∀ t, wi b = t → ∃ s', nxt 0 [4, 18, 19, 20] (bodyOf ⟨fnOf, specAbs, L+1⟩ (runF ⟨fnOf, specAbs, L+1⟩ (n+2)) 0 m9b0 [i, 12] ⟨[(4, .slc ⟨0,17,0⟩ stp 2 0 i false), (18, .lst 1 els), (19, .int .i64 m), (20, .int .i64 i)], [(⟨0,17,0⟩, ⟨stp, acc, 2, true⟩)], 0⟩) = some s' ∧ DoorSt els (i + 1) s' := by
      intro t hbb
      rw [ha] at fin h7a
      refine fin [.cpx 0 0, .v (.bool true)] 30 [.b (decide ((i : Int) < (m : Int))) true, .el els (.int .i64 i) [.cpx a b], .call 7 [.flt a] (.tup [.flt 0, .v (.bool false)]), .call 7 [.flt b] (.tup [.flt (if wi b = true then nearF b else 0), .v (.bool (wi b))]),
        .st [21, i, 12] [21, i, 12], .st [21, i, 12] [21, i, 12], .st stp stp, .push i 1 24 acc, .st [29, i, 12] [29, i, 12]] (by kernel_rfl) ?_ ?_
      · exact ⟨hb, hel, h7a, h7b, rfl, rfl, rfl, hpush, rfl, trivial⟩
      · simp [doorEl, ha]
    exact fb _ rfl

/-- the whole row -/
theorem door9_some {els : List (List AV)} (hne : els ≠ []) (hl : els.length ≤ 65536) (hels : ∀ e ∈ els, ∃ a b, e = [.cpx a b]) : den ⟨fnOf, specAbs, L+65537⟩ (n+3) 9 [.lst 1 els] = some (.tup [.own 2 (els.map doorEl) true, .int .i64 0]) := by
  have hA : DoorSt els 0 ⟨[(4, .slc ⟨0,17,0⟩ [7] 2 0 0 false), (18, .lst 1 els), (19, .int .i64 els.length), (20, .int .i64 0)], [(⟨0,17,0⟩, ⟨[7], [], 2, true⟩)], 0⟩ := ⟨[7], rfl⟩
  obtain ⟨s', h1, acc, stp, h2, h3⟩ := LP_inv (d := 0) (π := [12]) (L := L + 65536) (j := 0) (DoorSt els) (fun s => ∃ acc stp, acc = els.map doorEl ∧ s = ⟨[(21, .v (.bool false)), (4, .slc ⟨0,17,0⟩ stp 2 0 els.length false), (18, .lst 1 els), (19, .int .i64 els.length), (20, .int .i64 els.length)], [(⟨0,17,0⟩, ⟨stp, acc, 2, true⟩)], 1⟩)
    (x := .exit 0) (by simp) els.length (by omega) hA (fun i s _ hi hI => door_step (L := L+65536) (n := n) hl hels (by omega) hI) (by
      rintro s ⟨stp, rfl⟩
      have hb : decide (((0 + els.length : Nat) : Int) < (els.length : Int)) = false := by simp
      have hd : codeD ⟨fnOf, specAbs, L+65537⟩ (runF ⟨fnOf, specAbs, L+65537⟩ (n+2)) 0 m9b0 [0 + els.length, 12] ⟨[(4, .slc ⟨0,17,0⟩ stp 2 0 (0 + els.length) false), (18, .lst 1 els), (19, .int .i64 els.length), (20, .int .i64 ((0 + els.length : Nat) : Int))], [(⟨0,17,0⟩, ⟨stp, (els.take (0 + els.length)).map doorEl, 2, true⟩)], 0⟩ [(some 21, .b false)] =
          some (.exit 0, ⟨[(21, .v (.bool false)), (4, .slc ⟨0,17,0⟩ stp 2 0 (0 + els.length) false), (18, .lst 1 els), (19, .int .i64 els.length), (20, .int .i64 ((0 + els.length : Nat) : Int))], [(⟨0,17,0⟩, ⟨stp, (els.take (0 + els.length)).map doorEl, 2, true⟩)], 1⟩, [], [.b (decide (((0 + els.length : Nat) : Int) < (els.length : Int))) false]) := by kernel_rfl
      refine ⟨_, codeD_sound hd ⟨hb, trivial⟩, _, stp, rfl, ?_⟩
      simp)
  subst h3
  have hd : denD ⟨fnOf, specAbs, L+65537⟩ (n+2) 9 [.lst 1 els] [(some 14, .b false), (some 17, .any (.slc ⟨0,17,0⟩ [7] 2 0 0 false) [(⟨0,17,0⟩, ⟨[7], [], 2, true⟩)]),
      (none, .loop (.exit 0) ⟨[(21, .v (.bool false)), (4, .slc ⟨0,17,0⟩ stp 2 0 els.length false), (18, .lst 1 els), (19, .int .i64 els.length), (20, .int .i64 els.length)], [(⟨0,17,0⟩, ⟨stp, acc, 2, true⟩)], 1⟩)] =
      some (.tup [.own 2 (acc.take els.length) true, .int .i64 0], [.b (decide ((els.length : Int) > 65536)) false, .any 0 [7] ⟨some 17, .make 2 24 [.cpx 0 0, .v (.bool false)] true (.k (.int .i64 0)) (.t 16), none, []⟩ [(16, .int .i64 els.length)] [] (.slc ⟨0,17,0⟩ [7] 2 0 0 false) [(⟨0,17,0⟩, ⟨[7], [], 2, true⟩)],
        .loop 0 [4, 18, 19, 20] m9b0 [12] ⟨[(4, .slc ⟨0,17,0⟩ [7] 2 0 0 false), (18, .lst 1 els), (19, .int .i64 els.length), (20, .int .i64 0)], [(⟨0,17,0⟩, ⟨[7], [], 2, true⟩)], 0⟩ (.exit 0)
          ⟨[(21, .v (.bool false)), (4, .slc ⟨0,17,0⟩ stp 2 0 els.length false), (18, .lst 1 els), (19, .int .i64 els.length), (20, .int .i64 els.length)], [(⟨0,17,0⟩, ⟨stp, acc, 2, true⟩)], 1⟩, .st stp stp, .le els.length acc.length]) := by kernel_rfl
  rw [denD_sound hd ?_, h2, List.take_of_length_le (by simp)]
  have hpos : 0 < els.length := List.length_pos_iff.2 hne
  refine ⟨by simp only [Con.holds, decide_eq_false_iff_not]; omega, ?_, ⟨_, rfl, h1⟩, rfl, by simp [Con.holds, h2], trivial⟩
  simp only [Con.holds, stepOp, opSem, Opd.ev, Env.get, if_true, Heap.set]
  rw [if_pos (by unfold most; omega)]
  have : ¬ (0 : Int) = (els.length : Int) := by omega
  simp [this]
theorem door9 {els : List (List AV)} (hl : els.length ≤ 65536) (hels : ∀ e ∈ els, ∃ a b, e = [.cpx a b]) : den ⟨fnOf, specAbs, L+65537⟩ (n+3) 9 [.lst 1 els] = some (.tup [.own 2 (els.map doorEl) true, .int .i64 0]) := by
  cases els with
  | nil => kernel_rfl
  | cons e r => exact door9_some (by simp) hl hels
theorem door9_long {els : List (List AV)} (hl : 65536 < els.length) : den ⟨fnOf, specAbs, L+65537⟩ (n+3) 9 [.lst 1 els] = some (.tup [.nils, .int .i64 1]) := by
  have hd : denD ⟨fnOf, specAbs, L+65537⟩ (n+2) 9 [.lst 1 els] [(some 14, .b true)] = some (.tup [.nils, .int .i64 1], [.b (decide ((els.length : Int) > 65536)) true]) := by kernel_rfl
  exact denD_sound hd ⟨by simp only [Con.holds, decide_eq_true_eq]; omega, trivial⟩
end
end Go.Proofs.Ytdflnngkdibdeaa.Fw
