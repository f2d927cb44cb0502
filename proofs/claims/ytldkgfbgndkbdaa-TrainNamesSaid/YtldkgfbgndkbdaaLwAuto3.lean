/- train.Auto: the rounds of the outer loop, and the whole. -/
import Derived.Test.YtldkgfbgndkbdaaLwAuto2
set_option maxRecDepth 100000
set_option maxHeartbeats 4000000
set_option linter.unusedSimpArgs false
set_option linter.unusedVariables false
set_option linter.unnecessarySimpa false
namespace Go.Proofs.Ytldkgfbgndkbdaa.Fw
open Go Go.RowKit
section
variable {L n : Nat} {C : Caller}
theorem in_loop {xs : List Int} (hl : xs.length ≤ 4096) {s : Nat} (hs : s < xs.length) {π : List Nat} {t : St} (hI : InSt xs s (xs.map cI8) ((xs.drop s).map cI8) 0 t) :
    LP (bodyOf ⟨fnOf, specAbs, L+4097⟩ (runF ⟨fnOf, specAbs, L+4097⟩ n) 0 m12b0) 0 [0,4,5,15,16,21,22,23] π (L + 4096) 0 t =
      some (.exit 2, ⟨[(24, .v (.bool false)), (0, .lst 1 (xs.map cI8)), (4, .slc ⟨0,13,0⟩ [7] 1 0 xs.length true), (5, .int .i64 s), (15, .int .i64 xs.length), (16, .int .i64 s), (21, .lst 1 ((xs.drop s).map cI8)), (22, .int .i64 (xs.length - s : Nat)), (23, .int .i64 (xs.length - s : Nat))],
        outB ((outAt xs (s + 1)).map cI64), 1⟩) := by
  obtain ⟨s', h1, h2⟩ := LP_inv (d := 0) (π := π) (L := L + 4096) (j := 0) (InSt xs s (xs.map cI8) ((xs.drop s).map cI8)) (fun t => t = ⟨[(24, .v (.bool false)), (0, .lst 1 (xs.map cI8)), (4, .slc ⟨0,13,0⟩ [7] 1 0 xs.length true), (5, .int .i64 s), (15, .int .i64 xs.length), (16, .int .i64 s), (21, .lst 1 ((xs.drop s).map cI8)), (22, .int .i64 (xs.length - s : Nat)), (23, .int .i64 (xs.length - s : Nat))],
        outB ((outAt xs (s + 1)).map cI64), 1⟩) (x := .exit 2) (by simp) (xs.length - s) (by omega) hI (fun i t _ hi hI => in_step (L := L+4096) (n := n) hl hs (by omega) hI) (by
      rintro t rfl
      rw [outAt_succ xs s hs, ← dot_all xs s (by omega)]
      simp only [Nat.zero_add]
      generalize List.map cI64 _ = O
      generalize xs.map cI8 = els
      generalize (xs.drop s).map cI8 = els2
      generalize xs.length - s = m
      generalize xs.length = k
      have hb : decide ((m : Int) < (m : Int)) = false := by simp
      have hd : codeD ⟨fnOf, specAbs, L+4097⟩ (runF ⟨fnOf, specAbs, L+4097⟩ n) 0 m12b0 (m :: π) ⟨[(0, .lst 1 els), (4, .slc ⟨0,13,0⟩ [7] 1 0 k true), (5, .int .i64 s), (15, .int .i64 k), (16, .int .i64 s), (21, .lst 1 els2), (22, .int .i64 m), (23, .int .i64 m)], outB O, 0⟩ [(some 24,.b false)] =
        some (.exit 2, ⟨[(24, .v (.bool false)), (0, .lst 1 els), (4, .slc ⟨0,13,0⟩ [7] 1 0 k true), (5, .int .i64 s), (15, .int .i64 k), (16, .int .i64 s), (21, .lst 1 els2), (22, .int .i64 m), (23, .int .i64 m)], outB O, 1⟩, [], [.b (decide ((m : Int) < (m : Int))) false]) := by kernel_rfl
      exact ⟨_, codeD_sound hd ⟨hb, trivial⟩, rfl⟩)
  rw [h1, h2]

theorem slice_from {st : List Nat} {O : List (List AV)} {els : List (List AV)} {s : Nat} (h : s ≤ els.length) :
    Con.holds ⟨fnOf, specAbs, L⟩ C (.any 0 st ⟨some 21, .slice (some 1) (.t 19) (some (.t 20)) none none, none, []⟩ [(19, .lst 1 els), (20, .int .i64 s)] (outB O) (.lst 1 (els.drop s)) (outB O)) := by
  have h2 : (s : Int) ≤ (els.length : Int) := by omega
  simp [Con.holds, stepOp, opSem, Opd.ev, Env.get, sliceSem, optEv, bnd, h2]

def OutSt (xs : List Int) (s : Nat) (t : St) : Prop :=
  t = ⟨[(0, .lst 1 (xs.map cI8)), (4, .slc ⟨0,13,0⟩ [7] 1 0 xs.length true), (15, .int .i64 xs.length), (16, .int .i64 s)], outB ((outAt xs s).map cI64), 0⟩
theorem out_step {xs : List Int} (hl : xs.length ≤ 4096) {s : Nat} {t : St} (hs : s < xs.length) (hI : OutSt xs s t) :
    ∃ t', nxt 0 [0,4,15,16] (bodyOf ⟨fnOf, specAbs, L+4097⟩ (runF ⟨fnOf, specAbs, L+4097⟩ n) 0 m12b1 (s :: [12]) t) = some t' ∧ OutSt xs (s + 1) t' := by
  obtain rfl := hI
  have hin := in_loop (L := L) (n := n) hl hs (π := [8, s, 12]) (t := ⟨[(0, .lst 1 (xs.map cI8)), (4, .slc ⟨0,13,0⟩ [7] 1 0 xs.length true), (5, .int .i64 s), (15, .int .i64 xs.length), (16, .int .i64 s), (21, .lst 1 ((xs.drop s).map cI8)), (22, .int .i64 (xs.length - s : Nat)), (23, .int .i64 0)],
      outB ((outAt xs s).map cI64), 0⟩) (by unfold InSt; rw [outAt_mid xs s hs]; rfl)
  have hb : decide ((s : Int) < (xs.length : Int)) = true := by rw [decide_eq_true_eq]; omega
  have hsl := slice_from (L := L+4097) (C := runF ⟨fnOf, specAbs, L+4097⟩ n) (st := [5, s, 12]) (O := (outAt xs s).map cI64) (els := xs.map cI8) (s := s) (by simp; omega)
  rw [← List.map_drop] at hsl
  have hw := wrap_nat (i := s) (m := xs.length) hs (by omega)
  have hlen : ((xs.drop s).map cI8).length = xs.length - s := by simp
  unfold OutSt
  generalize (outAt xs s).map cI64 = O at *
  generalize (outAt xs (s + 1)).map cI64 = O' at *
  generalize xs.map cI8 = els at *
  generalize (xs.drop s).map cI8 = els2 at *
  rw [← hlen] at hin
  generalize xs.length = k at *
  have hd : nxtD ⟨fnOf, specAbs, L+4097⟩ (runF ⟨fnOf, specAbs, L+4097⟩ n) 0 [0,4,15,16] m12b1 (s :: [12]) ⟨[(0, .lst 1 els), (4, .slc ⟨0,13,0⟩ [7] 1 0 k true), (15, .int .i64 k), (16, .int .i64 s)], outB O, 0⟩
      [(some 17,.b true),(some 21,.any (.lst 1 els2) (outB O)), (none, .loop (.exit 2) ⟨[(24, .v (.bool false)), (0, .lst 1 els), (4, .slc ⟨0,13,0⟩ [7] 1 0 k true), (5, .int .i64 s), (15, .int .i64 k), (16, .int .i64 s), (21, .lst 1 els2), (22, .int .i64 (els2.length)), (23, .int .i64 (els2.length))], outB O', 1⟩)] =
      some (⟨[(0, .lst 1 els), (4, .slc ⟨0,13,0⟩ [7] 1 0 k true), (15, .int .i64 k), (16, .int .i64 (IntKind.wrap .i64 ((s : Int) + 1)))], outB O', 0⟩,
        [.b (decide ((s : Int) < (k : Int))) true, .any 0 [5, s, 12] ⟨some 21, .slice (some 1) (.t 19) (some (.t 20)) none none, none, []⟩ [(19, .lst 1 els), (20, .int .i64 s)] (outB O) (.lst 1 els2) (outB O),
          .loop 0 [0, 4, 5, 15, 16, 21, 22, 23] m12b0 [8, s, 12] ⟨[(0, .lst 1 els), (4, .slc ⟨0,13,0⟩ [7] 1 0 k true), (5, .int .i64 s), (15, .int .i64 k), (16, .int .i64 s), (21, .lst 1 els2), (22, .int .i64 (els2.length)), (23, .int .i64 0)], outB O, 0⟩ (.exit 2)
            ⟨[(24, .v (.bool false)), (0, .lst 1 els), (4, .slc ⟨0,13,0⟩ [7] 1 0 k true), (5, .int .i64 s), (15, .int .i64 k), (16, .int .i64 s), (21, .lst 1 els2), (22, .int .i64 (els2.length)), (23, .int .i64 (els2.length))], outB O', 1⟩]) := by kernel_rfl
  refine ⟨_, nxtD_sound hd ⟨hb, hsl, ⟨_, rfl, hin⟩, trivial⟩, ?_⟩
  rw [hw]

theorem out_zero (xs : List Int) : outAt xs 0 = List.replicate xs.length 0 := by simp [outAt]
theorem auto12 {xs : List Int} (hl : xs.length ≤ 4096) : den ⟨fnOf, specAbs, L+4097⟩ (n+1) 12 [.lst 1 (xs.map cI8)] = some (.tup [.own 1 ((autoL xs).map cI64) true, .int .i64 0]) := by
  obtain ⟨s', h1, h2⟩ := LP_inv (d := 0) (π := [12]) (L := L + 4096) (j := 0) (OutSt xs) (fun t => t = ⟨[(17, .v (.bool false)), (0, .lst 1 (xs.map cI8)), (4, .slc ⟨0,13,0⟩ [7] 1 0 xs.length true), (15, .int .i64 xs.length), (16, .int .i64 xs.length)], outB ((autoL xs).map cI64), 1⟩)
    (x := .exit 0) (by simp) xs.length (by omega) (A := ⟨[(0, .lst 1 (xs.map cI8)), (4, .slc ⟨0,13,0⟩ [7] 1 0 xs.length true), (15, .int .i64 xs.length), (16, .int .i64 0)], outB ((outAt xs 0).map cI64), 0⟩) rfl (fun i t _ hi hI => out_step (L := L) (n := n) hl (by omega) hI) (by
      rintro t rfl
      simp only [Nat.zero_add]
      rw [outAt_len]
      generalize (autoL xs).map cI64 = O
      generalize xs.map cI8 = els
      generalize xs.length = k
      have hb : decide ((k : Int) < (k : Int)) = false := by simp
      have hd : codeD ⟨fnOf, specAbs, L+4097⟩ (runF ⟨fnOf, specAbs, L+4097⟩ n) 0 m12b1 (k :: [12]) ⟨[(0, .lst 1 els), (4, .slc ⟨0,13,0⟩ [7] 1 0 k true), (15, .int .i64 k), (16, .int .i64 k)], outB O, 0⟩ [(some 17,.b false)] =
        some (.exit 0, ⟨[(17, .v (.bool false)), (0, .lst 1 els), (4, .slc ⟨0,13,0⟩ [7] 1 0 k true), (15, .int .i64 k), (16, .int .i64 k)], outB O, 1⟩, [], [.b (decide ((k : Int) < (k : Int))) false]) := by kernel_rfl
      exact ⟨_, codeD_sound hd ⟨hb, trivial⟩, rfl⟩)
  subst h2
  have hlen : (xs.map cI8).length = xs.length := by simp
  have hO : (List.replicate xs.length (0 : Int)).map cI64 = List.replicate (xs.map cI8).length (cI64 0) := by simp
  have hal : ((autoL xs).map cI64).length = xs.length := by simp [autoL]
  have hmk : Con.holds ⟨fnOf, specAbs, L+4097⟩ (runF ⟨fnOf, specAbs, L+4097⟩ n) (.any 0 [7] ⟨some 13, .make 1 8 [.int .i64 0] true (.t 12) (.t 12), none, []⟩ [(12, .int .i64 (xs.map cI8).length), (12, .int .i64 (xs.map cI8).length)] [] (.slc ⟨0,13,0⟩ [7] 1 0 (xs.map cI8).length true) (outB (List.replicate (xs.map cI8).length (cI64 0)))) := by
    rw [hlen]
    simp only [Con.holds, stepOp, opSem, Opd.ev, Env.get, if_true, Heap.set]
    rw [if_pos (by unfold most; omega)]
    simp [cI64]
  rw [out_zero, hO] at h1
  rw [← hlen] at h1
  have hgt : decide (((xs.map cI8).length : Int) > 4096) = false := by simp; omega
  have hle : ((xs.map cI8).length) ≤ ((autoL xs).map cI64).length := by rw [hlen, hal]; exact Nat.le_refl _
  have htk : ((autoL xs).map cI64).take (xs.map cI8).length = (autoL xs).map cI64 := List.take_of_length_le (by rw [hlen, hal]; exact Nat.le_refl _)
  rw [← htk]
  generalize (autoL xs).map cI64 = O' at *
  generalize xs.map cI8 = els at *
  have hd : denD ⟨fnOf, specAbs, L+4097⟩ n 12 [.lst 1 els] [(some 10, .b false), (some 13, .any (.slc ⟨0,13,0⟩ [7] 1 0 els.length true) (outB (List.replicate els.length (cI64 0)))),
      (none, .loop (.exit 0) ⟨[(17, .v (.bool false)), (0, .lst 1 els), (4, .slc ⟨0,13,0⟩ [7] 1 0 els.length true), (15, .int .i64 els.length), (16, .int .i64 els.length)], outB O', 1⟩)] =
      some (.tup [.own 1 (O'.take els.length) true, .int .i64 0], [.b (decide ((els.length : Int) > 4096)) false,
        .any 0 [7] ⟨some 13, .make 1 8 [.int .i64 0] true (.t 12) (.t 12), none, []⟩ [(12, .int .i64 els.length), (12, .int .i64 els.length)] [] (.slc ⟨0,13,0⟩ [7] 1 0 els.length true) (outB (List.replicate els.length (cI64 0))),
        .loop 0 [0, 4, 15, 16] m12b1 [12] ⟨[(0, .lst 1 els), (4, .slc ⟨0,13,0⟩ [7] 1 0 els.length true), (15, .int .i64 els.length), (16, .int .i64 0)], outB (List.replicate els.length (cI64 0)), 0⟩ (.exit 0)
          ⟨[(17, .v (.bool false)), (0, .lst 1 els), (4, .slc ⟨0,13,0⟩ [7] 1 0 els.length true), (15, .int .i64 els.length), (16, .int .i64 els.length)], outB O', 1⟩, .st [7] [7], .le els.length O'.length]) := by kernel_rfl
  exact denD_sound hd ⟨hgt, hmk, ⟨_, rfl, h1⟩, rfl, hle, trivial⟩
end
end Go.Proofs.Ytldkgfbgndkbdaa.Fw
