/- NearTaught: the law's loops: the taps, the row. -/
import Derived.Test.YthcgeajojgecnaaLwNtB
import Derived.Test.YthcgeajojgecnaaLwNtL
set_option maxRecDepth 100000
set_option maxHeartbeats 4000000
set_option exponentiation.threshold 4000
set_option linter.unusedSimpArgs false
set_option linter.unusedVariables false
namespace Go.Proofs.Ythcgeajojgecnaa.Fw
open Go Go.RowKit
def KE (es : List (Int × Int)) (i : Nat) : Int := (IntKind.wrap .i64 (es.getD i (0, 0)).1).tmod 65
def JE (es : List (Int × Int)) (i : Nat) : Int := (IntKind.wrap .i64 (es.getD i (0, 0)).2).tmod 65
def tapN (es : List (Int × Int)) (i : Nat) : Nat × Nat := (fdiv (fofInt (KE es i)) 4634204016564240384, fdiv (fofInt (JE es i)) 4634204016564240384)
theorem KE_small (es : List (Int × Int)) (i : Nat) : (KE es i).natAbs ≤ 64 ∧ (JE es i).natAbs ≤ 64 := by
  have h1 := tmod_le (IntKind.wrap .i64 (es.getD i (0, 0)).1) (m := 65) (by decide)
  have h2 := tmod_le (IntKind.wrap .i64 (es.getD i (0, 0)).2) (m := 65) (by decide)
  unfold KE JE
  omega
theorem tapN_is (es : List (Int × Int)) (i : Nat) : grid6 (KE es i) (tapN es i).1 ∧ grid6 (JE es i) (tapN es i).2 := by
  obtain ⟨h1, h2⟩ := KE_small es i
  have a1 : (KE es i).natAbs < 2 ^ 53 := by omega
  have a2 : (JE es i).natAbs < 2 ^ 53 := by omega
  obtain ⟨g1, g2⟩ := fofInt_exact a1
  obtain ⟨g3, g4⟩ := fofInt_exact a2
  exact ⟨whole_div6 a1 g1 g2, whole_div6 a2 g3 g4⟩
theorem tapsN_tab (es : List (Int × Int)) (k : Nat) : tapL (KE es) (JE es) (tab (tapN es) k) := by
  intro j hj
  rw [tab_len] at hj
  rw [tab_at hj]
  exact tapN_is es j
theorem mxA {a : Int} (h : a.natAbs ≤ 64) : (if IntKind.wrap .i64 (0 - a) > a then IntKind.wrap .i64 (0 - a) else a) = (a.natAbs : Int) := by
  rw [wrap_id (by omega)]; split <;> omega
theorem getD_out {α : Type} {zs : List α} {t : Nat} {d : α} (h : zs.length ≤ t) : zs.getD t d = d := by
  rw [List.getD_eq_getElem?_getD, List.getElem?_eq_none h]; rfl
def stE : Nat → List Nat
  | 0 => [4]
  | i + 1 => [47, i, 4]
/-- the first append to a list that was made full -/
theorem app1 {P : Prog} {C : Caller} {st st2 : List Nat} {els : List (List AV)} {a b w : Nat} {b1 b2 b3 b4 : Blk} (hw : els.length = w) (hw2 : w ≤ 100) :
    Con.holds P C (.any 0 st (MO.mk (some 111) (MOp.append 2 24 true (Opd.t 107) (Opd.t 110)) none []) [(107, (.slc (.mk 0 70 0) [60] 2 0 w true)), (110, (.slc (.mk 0 110 0) st2 2 0 1 true))]
      [((.mk 0 25 0), b1), ((.mk 0 5 0), b2), ((.mk 0 41 0), b3), ((.mk 0 50 0), b4), ((.mk 0 70 0), (.mk [60] els 2 true)), ((.mk 0 110 0), (.mk st2 [[.cpx a b, .v (.bool false)]] 2 true))]
      (.slc (.mk 0 111 0) st 2 0 (w + 1) false)
      [((.mk 0 25 0), b1), ((.mk 0 5 0), b2), ((.mk 0 41 0), b3), ((.mk 0 50 0), b4), ((.mk 0 70 0), (.mk [60] els 2 true)), ((.mk 0 110 0), (.mk st2 [[.cpx a b, .v (.bool false)]] 2 true)), ((.mk 0 111 0), (.mk st (els ++ [[.cpx a b, .v (.bool false)]]) 2 true))]) := by
  subst hw
  have r1 : (els.length + 1) * 24 ≤ 140737488355328 := by omega
  show stepOp _ _ _ _ _ _ _ = _
  simp [stepOp, opSem, altOf, Heap.get, Heap.row, Heap.set, srcEls, Opd.ev, Env.get, lens, dryEls, dryL, AV.dry, allCell, AV.cell, roomOk, most, r1]
section
variable {L n : Nat} {es : List (Int × Int)}
theorem echoE_den (hL : 64 ≤ L) : ∃ k, den ⟨fnOf, specN, L+1⟩ (n+1) 44 [.lst 2 (es.map celB)] = some (.own 1 ((tab (tapN es) k).map celC) true) ∧ k ≤ 64 ∧ areT (KE es) (JE es) k := by
  have el : (es.map celB).length = es.length := map_len
  rcases firstN (fun i => decide (i < es.length) && decide (i < 64) && decide (sumA (KE es) (JE es) (i + 1) ≤ 256)) 65 with hall | ⟨k, hk, hgo, hno⟩
  · have := hall 64 (by omega)
    simp at this
  have hgo : ∀ i, i < k → i < es.length ∧ i < 64 ∧ sumA (KE es) (JE es) (i + 1) ≤ 256 := fun i hi => by
    have := hgo i hi
    simp only [Bool.and_eq_true, decide_eq_true_eq] at this
    exact ⟨this.1.1, this.1.2, this.2⟩
  have hsum : sumA (KE es) (JE es) k ≤ 256 := by
    by_cases h0 : k = 0
    · subst h0; exact Nat.zero_le _
    · have := (hgo (k - 1) (by omega)).2.2
      rw [show k - 1 + 1 = k by omega] at this
      exact this
  have hA : areT (KE es) (JE es) k := ⟨fun i _ => by
    have := KE_small es i
    unfold tapB
    simp only [Bool.and_eq_true, decide_eq_true_eq]
    exact this, hsum⟩
  have lft : ∀ i, sumA (KE es) (JE es) i ≤ 256 → IntKind.wrap .i64 (IntKind.wrap .i64 ((256 - (sumA (KE es) (JE es) i : Int)) - (if IntKind.wrap .i64 (0 - KE es i) > KE es i then IntKind.wrap .i64 (0 - KE es i) else KE es i)) - (if IntKind.wrap .i64 (0 - JE es i) > JE es i then IntKind.wrap .i64 (0 - JE es i) else JE es i)) = 256 - (sumA (KE es) (JE es) (i + 1) : Int) := fun i hi => by
    obtain ⟨h1, h2⟩ := KE_small es i
    rw [mxA h1, mxA h2, wrap_id (n := 256 - (sumA (KE es) (JE es) i : Int) - ((KE es i).natAbs : Int)) (by omega), wrap_id (by omega)]
    show _ = 256 - ((sumA (KE es) (JE es) i + (KE es i).natAbs + (JE es i).natAbs : Nat) : Int)
    omega
  have elh : ∀ i, i < es.length → Con.holds ⟨fnOf, specN, L+1⟩ (runF ⟨fnOf, specN, L+1⟩ n) (.el (es.map celB) (.int .i64 i) [.int .i8 (es.getD i (0, 0)).1, .int .i8 (es.getD i (0, 0)).2]) := fun i hi => elD_map (f := celB) hi
  have round : ∀ i, i < k → seeZ 0 [0, 3, 4, 5] m44.res (bodyOf ⟨fnOf, specN, L+1⟩ (runF ⟨fnOf, specN, L+1⟩ n) 0 m44b0 (i :: [4]) (nehSt es (tab (tapN es) i) (stE i) (256 - (sumA (KE es) (JE es) i : Int)) i i)) = some (.go .nrm (nehSt es (tab (tapN es) (i + 1)) (stE (i + 1)) (256 - (sumA (KE es) (JE es) (i + 1) : Int)) (i + 1) (i + 1))) := fun i hi => by
    obtain ⟨a1, a2, a3⟩ := hgo i hi
    have hs : sumA (KE es) (JE es) i ≤ 256 := Nat.le_trans (sumA_le (K := KE es) (J := JE es) (Nat.le_succ i)) a3
    have hl := lft i hs
    have hp : Con.holds ⟨fnOf, specN, L+1⟩ (runF ⟨fnOf, specN, L+1⟩ n) (.push i 1 16 ((tab (tapN es) i).map celC)) := push_ok (by rw [map_len, tab_len]) (by simp only [most]; omega)
    have := @nehb_1 (L+1) n es [] [] (tab (tapN es) i) [] [] 0 0 (256 - (sumA (KE es) (JE es) i : Int)) 0 0 0 0 0 0 0 i i false (stE i) [4] [] [] (es.getD i (0, 0)) (es.getD i (0, 0)) (by rw [el]; exact dLt a1) (dT (by omega)) (elh i a1) (elh i a1) (by
      have : decide ((256 - (sumA (KE es) (JE es) (i + 1) : Int)) < 0) = false := dF (by omega)
      rw [← hl] at this
      exact this) hp
    rw [show (es.getD i (0, 0)) = (es.getD i (0, 0)) from rfl] at this
    have hl' : IntKind.wrap .i64 (IntKind.wrap .i64 ((256 - (sumA (KE es) (JE es) i : Int)) - (if IntKind.wrap .i64 (0 - (IntKind.wrap .i64 (es.getD i (0, 0)).1).tmod 65) > (IntKind.wrap .i64 (es.getD i (0, 0)).1).tmod 65 then IntKind.wrap .i64 (0 - (IntKind.wrap .i64 (es.getD i (0, 0)).1).tmod 65) else (IntKind.wrap .i64 (es.getD i (0, 0)).1).tmod 65)) - (if IntKind.wrap .i64 (0 - (IntKind.wrap .i64 (es.getD i (0, 0)).2).tmod 65) > (IntKind.wrap .i64 (es.getD i (0, 0)).2).tmod 65 then IntKind.wrap .i64 (0 - (IntKind.wrap .i64 (es.getD i (0, 0)).2).tmod 65) else (IntKind.wrap .i64 (es.getD i (0, 0)).2).tmod 65)) = 256 - (sumA (KE es) (JE es) (i + 1) : Int) := hl
    rw [hl', wrapUp a2 (by omega)] at this
    refine this.trans ?_
    unfold nehSt
    rw [tab_up, List.map_append]
    rfl
  have lel : ∀ i, Con.holds ⟨fnOf, specN, L+1⟩ (runF ⟨fnOf, specN, L+1⟩ n) (.le i (List.length ((tab (tapN es) i).map celC))) := fun i => by
    show _ ≤ _; rw [show List.length ((tab (tapN es) i).map celC) = _ from map_len, tab_len]; exact Nat.le_refl _
  have tk : (List.take k ((tab (tapN es) k).map celC)) = (tab (tapN es) k).map celC := tkMap tab_len.symm
  refine ⟨k, ?_, by omega, hA⟩
  by_cases c1 : k < es.length
  · by_cases c2 : k < 64
    · have c3 : ¬ sumA (KE es) (JE es) (k + 1) ≤ 256 := by
        have h : (decide (k < es.length) && decide (k < 64) && decide (sumA (KE es) (JE es) (k + 1) ≤ 256)) = false := hno
        rw [decide_eq_true c1, decide_eq_true c2] at h
        simpa using h
      have hl := lft k hsum
      have out := @nehb_0 (L+1) n es [] [] (tab (tapN es) k) [] [] 0 0 (256 - (sumA (KE es) (JE es) k : Int)) 0 0 0 0 0 0 0 k k false (stE k) [4] [] [] (es.getD k (0, 0)) (es.getD k (0, 0)) (by rw [el]; exact dLt c1) (dT (by omega)) (elh k c1) (elh k c1) (by
        have : decide ((256 - (sumA (KE es) (JE es) (k + 1) : Int)) < 0) = true := dT (by omega)
        rw [← hl] at this
        exact this) (lel k)
      rw [tk] at out
      obtain ⟨s1, a1, b1⟩ := loopZ (P := ⟨fnOf, specN, L+1⟩) (C := runF ⟨fnOf, specN, L+1⟩ n) (π := [4]) (res := m44.res) (fun i => nehSt es (tab (tapN es) i) (stE i) (256 - (sumA (KE es) (JE es) i : Int)) i i) k rfl (by omega) round out
      exact @neht_0 (L+1) n es [] [] [] [] [] 0 0 0 0 0 0 0 0 0 0 0 0 false [] [] [] [] s1 _ a1 b1
    · have := @neh_0 (L+1) n es [] [] (tab (tapN es) k) [] [] 0 0 (256 - (sumA (KE es) (JE es) k : Int)) 0 0 0 0 0 0 0 k k false (stE k) [] [] [] (loopX (res := m44.res) (fun i => nehSt es (tab (tapN es) i) (stE i) (256 - (sumA (KE es) (JE es) i : Int)) i i) k rfl (by omega) round (@nehb_2 (L+1) n es [] [] (tab (tapN es) k) [] [] 0 0 (256 - (sumA (KE es) (JE es) k : Int)) 0 0 0 0 0 0 0 k k false (stE k) [4] [] [] (by rw [el]; exact dLt c1) (dF (by omega))) (by simp)) (lel k)
      rw [tk] at this
      exact this
  · have := @neh_0 (L+1) n es [] [] (tab (tapN es) k) [] [] 0 0 (256 - (sumA (KE es) (JE es) k : Int)) 0 0 0 0 0 0 0 k k false (stE k) [] [] [] (loopX (res := m44.res) (fun i => nehSt es (tab (tapN es) i) (stE i) (256 - (sumA (KE es) (JE es) i : Int)) i i) k rfl (by omega) round (@nehb_3 (L+1) n es [] [] (tab (tapN es) k) [] [] 0 0 (256 - (sumA (KE es) (JE es) k : Int)) 0 0 0 0 0 0 0 k k false (stE k) [4] [] [] (by rw [el]; exact dF (by omega))) (by simp)) (lel k)
    rw [tk] at this
    exact this
end
/-- the disturbance, as whole numbers of the grid -/
def dsR (ds : List (Int × Int)) (t : Nat) : Int := if t < ds.length then (ds.getD t (0, 0)).1.tmod 4096 else 0
def dsI (ds : List (Int × Int)) (t : Nat) : Int := if t < ds.length then (ds.getD t (0, 0)).2.tmod 4096 else 0
theorem ds_small (ds : List (Int × Int)) (t : Nat) : (dsR ds t).natAbs ≤ 4095 ∧ (dsI ds t).natAbs ≤ 4095 := by
  have h1 := tmod_le (ds.getD t (0, 0)).1 (m := 4096) (by decide)
  have h2 := tmod_le (ds.getD t (0, 0)).2 (m := 4096) (by decide)
  unfold dsR dsI
  split <;> omega
/-- what stands in the row -/
def rowS (Q d : Nat → Int) (A z t : Nat) : Int := if A ≤ t ∧ t < A + z then 64 * Q (t - A) + d (t - A) else 0
theorem rowS_up {Q d : Nat → Int} {A i t : Nat} (h : t ≠ A + i) : rowS Q d A (i + 1) t = rowS Q d A i t := by
  unfold rowS
  by_cases c : A ≤ t ∧ t < A + i
  · rw [if_pos c, if_pos (by omega)]
  · rw [if_neg c, if_neg (by omega)]
theorem rowS_at {Q d : Nat → Int} {A i : Nat} : rowS Q d A (i + 1) (A + i) = 64 * Q i + d i := by
  unfold rowS
  rw [if_pos (by omega), Nat.add_sub_cancel_left]
section
variable {L n : Nat} {ds : List (Int × Int)} {hs zs os : List (Nat × Nat)} {o g : Int} {A : Nat} {Q S : Nat → Int}
theorem row_loop (hol : os.length = zs.length) (hz1 : 1 ≤ zs.length) (hzl : zs.length ≤ 65536) (hA : A ≤ 20) (hL : 65536 ≤ L)
    (hg : ∀ t, t < zs.length → grid6 (Q t) (os.getD t (0, 0)).1 ∧ grid6 (S t) (os.getD t (0, 0)).2) (hQ : ∀ t, (Q t).natAbs ≤ 2 ^ 21 ∧ (S t).natAbs ≤ 2 ^ 21) :
    ∃ (ss : List ((Nat × Nat) × Bool)) (st : List Nat), Con.holds ⟨fnOf, specN, L+1⟩ (runF ⟨fnOf, specN, L+1⟩ n) (.loop 0 [3, 4, 5, 6, 8, 9, 11, 12, 13] m13b2 [63] (nraSt ds hs zs os o g A A (List.replicate A ((0, 0), false)) 0) (.exit 0) (nrbSt ds hs zs os o g A st (A + zs.length) ss zs.length)) ∧
      ss.length = A + zs.length ∧ ∀ t, (ss.getD t ((0, 0), false)).2 = false ∧ grid (rowS Q (dsR ds) A zs.length t) (ss.getD t ((0, 0), false)).1.1 ∧ grid (rowS S (dsI ds) A zs.length t) (ss.getD t ((0, 0), false)).1.2 := by
  have zl : (zs.map celC).length = zs.length := map_len
  have oml : List.length (os.map celC) = os.length := map_len
  have dl : (ds.map celH).length = ds.length := map_len
  have rl : (List.replicate A (((0, 0), false) : (Nat × Nat) × Bool)).length = A := List.length_replicate ..
  -- a step's numbers
  have ih : ∀ (ss : List ((Nat × Nat) × Bool)) (i : Nat) (x y : Nat), i < zs.length → ss.length = A + i → (∀ t, (ss.getD t ((0, 0), false)).2 = false ∧ grid (rowS Q (dsR ds) A i t) (ss.getD t ((0, 0), false)).1.1 ∧ grid (rowS S (dsI ds) A i t) (ss.getD t ((0, 0), false)).1.2) →
      grid (64 * Q i + dsR ds i) x → grid (64 * S i + dsI ds i) y → ∀ t, ((ss ++ [((x, y), false)]).getD t ((0, 0), false)).2 = false ∧ grid (rowS Q (dsR ds) A (i + 1) t) ((ss ++ [((x, y), false)]).getD t ((0, 0), false)).1.1 ∧ grid (rowS S (dsI ds) A (i + 1) t) ((ss ++ [((x, y), false)]).getD t ((0, 0), false)).1.2 := fun ss i x y hi hl hx gx gy t => by
    rw [getD_apps]
    by_cases c : t < ss.length
    · rw [if_pos c, rowS_up (by omega), rowS_up (by omega)]; exact hx t
    · rw [if_neg c]
      by_cases e : t = A + i
      · subst e
        rw [rowS_at, rowS_at, hl, Nat.sub_self]
        exact ⟨rfl, gx, gy⟩
      · rw [rowS_up e, rowS_up e]
        have := hx t
        rw [getD_out (by omega)] at this
        rw [getD_out (by simp; omega)]
        exact this
  have g0 : ∀ i, i < zs.length → ¬ i < ds.length → grid (64 * Q i + dsR ds i) (os.getD i (0, 0)).1 ∧ grid (64 * S i + dsI ds i) (os.getD i (0, 0)).2 := fun i hi hd => by
    obtain ⟨a, b⟩ := hg i hi
    have e1 : dsR ds i = 0 := if_neg hd
    have e2 : dsI ds i = 0 := if_neg hd
    rw [e1, e2, Int.add_zero, Int.add_zero]
    exact ⟨grid6_grid a, grid6_grid b⟩
  have g1 : ∀ i, i < zs.length → i < ds.length → grid (64 * Q i + dsR ds i) (fadd (os.getD i (0, 0)).1 (fdiv (fofInt ((ds.getD i (0, 0)).1.tmod 4096)) 4661225614328463360)) ∧ grid (64 * S i + dsI ds i) (fadd (os.getD i (0, 0)).2 (fdiv (fofInt ((ds.getD i (0, 0)).2.tmod 4096)) 4661225614328463360)) := fun i hi hd => by
    obtain ⟨a, b⟩ := hg i hi
    obtain ⟨q1, q2⟩ := hQ i
    obtain ⟨d1, d2⟩ := ds_small ds i
    have e1 : dsR ds i = (ds.getD i (0, 0)).1.tmod 4096 := if_pos hd
    have e2 : dsI ds i = (ds.getD i (0, 0)).2.tmod 4096 := if_pos hd
    rw [← e1, ← e2]
    exact ⟨grid_add (grid6_grid a) (grid_parts (by omega)) (by omega), grid_add (grid6_grid b) (grid_parts (by omega)) (by omega)⟩
  obtain ⟨s', q1, ss, st, rfl, l1, hx⟩ := loopJ (P := ⟨fnOf, specN, L+1⟩) (C := runF ⟨fnOf, specN, L+1⟩ n) (L := L) (d := 0) (live := [3, 4, 5, 6, 8, 9, 11, 12, 13]) (π := [63]) (m := m13b2) (A := nraSt ds hs zs os o g A A (List.replicate A ((0, 0), false)) 0) (x := .exit 0)
    (fun i s => (i = 0 ∧ s = nraSt ds hs zs os o g A A (List.replicate A ((0, 0), false)) 0) ∨ ∃ ss st, 0 < i ∧ s = nrbSt ds hs zs os o g A st (A + i) ss i ∧ ss.length = A + i ∧ ∀ t, (ss.getD t ((0, 0), false)).2 = false ∧ grid (rowS Q (dsR ds) A i t) (ss.getD t ((0, 0), false)).1.1 ∧ grid (rowS S (dsI ds) A i t) (ss.getD t ((0, 0), false)).1.2)
    (fun s => ∃ ss st, s = nrbSt ds hs zs os o g A st (A + zs.length) ss zs.length ∧ ss.length = A + zs.length ∧ ∀ t, (ss.getD t ((0, 0), false)).2 = false ∧ grid (rowS Q (dsR ds) A zs.length t) (ss.getD t ((0, 0), false)).1.1 ∧ grid (rowS S (dsI ds) A zs.length t) (ss.getD t ((0, 0), false)).1.2) zs.length (by simp) rfl (by omega)
    (.inl ⟨rfl, rfl⟩) (fun i s hi hst => by
      have hay : Con.holds ⟨fnOf, specN, L+1⟩ (runF ⟨fnOf, specN, L+1⟩ n) (.at (os.map celC) (0 + i) [.cpx (os.getD i (0, 0)).1 (os.getD i (0, 0)).2]) := by rw [Nat.zero_add]; exact atD_map (f := celC) (by omega)
      have hix : Con.holds ⟨fnOf, specN, L+1⟩ (runF ⟨fnOf, specN, L+1⟩ n) (.ix (.int .i64 i) (List.length (os.map celC)) i) := by rw [oml]; exact ix_at (by omega)
      have hlt : decide ((i : Int) < ((zs.map celC).length : Int)) = true := by rw [zl]; exact dLt hi
      rcases hst with ⟨rfl, rfl⟩ | ⟨ss, st, hi0, rfl, l1, hx⟩
      · have hr0 : ∀ t, ((List.replicate A (((0, 0), false) : (Nat × Nat) × Bool)).getD t ((0, 0), false)).2 = false ∧ grid (rowS Q (dsR ds) A 0 t) ((List.replicate A (((0, 0), false) : (Nat × Nat) × Bool)).getD t ((0, 0), false)).1.1 ∧ grid (rowS S (dsI ds) A 0 t) ((List.replicate A (((0, 0), false) : (Nat × Nat) × Bool)).getD t ((0, 0), false)).1.2 := fun t => by
          have e : (List.replicate A (((0, 0), false) : (Nat × Nat) × Bool)).getD t ((0, 0), false) = ((0, 0), false) := by
            rw [List.getD_eq_getElem?_getD, List.getElem?_replicate]; split <;> rfl
          rw [e]
          unfold rowS
          rw [if_neg (by omega), if_neg (by omega)]
          exact ⟨rfl, grid_nought, grid_nought⟩
        by_cases hd : 0 < ds.length
        · have de : Con.holds ⟨fnOf, specN, L+1⟩ (runF ⟨fnOf, specN, L+1⟩ n) (.el (ds.map celH) (.int .i64 ((0 : Nat) : Int)) [.int .i16 (ds.getD 0 (0, 0)).1, .int .i16 (ds.getD 0 (0, 0)).2]) := elD_map (f := celH) hd
          have := @nrc_0 (L+1) n [] ds zs hs os (List.replicate A ((0, 0), false)) o 0 g A (ds.getD 0 (0, 0)).1 (ds.getD 0 (0, 0)).2 0 0 (os.getD 0 (0, 0)).1 (os.getD 0 (0, 0)).2 0 A false [] [63] [] [] hlt hix hay (by rw [dl]; exact dLt hd) de (app1 (by rw [map_len, rl]) (by omega))
          rw [wrapUp hi (by omega)] at this
          obtain ⟨x1, x2⟩ := g1 0 hi hd
          refine ⟨_, this, .inr ⟨_, [40, 0, 63], by omega, ?_, ?_, ih _ 0 _ _ hi (by rw [rl]; rfl) hr0 x1 x2⟩⟩
          · unfold nrbSt
            rw [List.map_append]
            rfl
          · rw [List.length_append, rl]; rfl
        · have := @nrd_1 (L+1) n [] ds zs hs os (List.replicate A ((0, 0), false)) o 0 g A 0 0 0 0 (os.getD 0 (0, 0)).1 (os.getD 0 (0, 0)).2 0 A false [] [63] [] [] hlt hix hay (by rw [dl]; exact dF (by omega)) (app1 (by rw [map_len, rl]) (by omega))
          rw [wrapUp hi (by omega)] at this
          obtain ⟨x1, x2⟩ := g0 0 hi hd
          refine ⟨_, this, .inr ⟨_, [16, 0, 63], by omega, ?_, ?_, ih _ 0 _ _ hi (by rw [rl]; rfl) hr0 x1 x2⟩⟩
          · unfold nrbSt
            rw [List.map_append]
            rfl
          · rw [List.length_append, rl]; rfl
      · have hp : Con.holds ⟨fnOf, specN, L+1⟩ (runF ⟨fnOf, specN, L+1⟩ n) (.push (A + i) 1 24 (ss.map celS)) := push_ok (by rw [map_len, l1]) (by simp only [most]; omega)
        by_cases hd : i < ds.length
        · have de : Con.holds ⟨fnOf, specN, L+1⟩ (runF ⟨fnOf, specN, L+1⟩ n) (.el (ds.map celH) (.int .i64 (i : Int)) [.int .i16 (ds.getD i (0, 0)).1, .int .i16 (ds.getD i (0, 0)).2]) := elD_map (f := celH) hd
          have := @nrb_0 (L+1) n [] ds zs hs os ss o 0 g A 0 0 0 0 0 0 i (A + i) false st [63] [] [] i (os.getD i (0, 0)) (ds.getD i (0, 0)) (ds.getD i (0, 0)) hlt hix hay (by rw [dl]; exact dLt hd) de de hp
          rw [wrapUp hi (by omega)] at this
          obtain ⟨x1, x2⟩ := g1 i hi hd
          refine ⟨_, this, .inr ⟨ss ++ [((_, _), false)], [40, i, 63], by omega, ?_, ?_, ih _ i _ _ hi l1 hx x1 x2⟩⟩
          · unfold nrbSt
            rw [List.map_append]
            rfl
          · rw [List.length_append, l1]; rfl
        · have := @nrb_1 (L+1) n [] ds zs hs os ss o 0 g A 0 0 0 0 0 0 i (A + i) false st [63] [] [] i (os.getD i (0, 0)) hlt hix hay (by rw [dl]; exact dF (by omega)) hp
          rw [wrapUp hi (by omega)] at this
          obtain ⟨x1, x2⟩ := g0 i hi hd
          refine ⟨_, this, .inr ⟨ss ++ [((_, _), false)], [16, i, 63], by omega, ?_, ?_, ih _ i _ _ hi l1 hx x1 x2⟩⟩
          · unfold nrbSt
            rw [List.map_append]
            rfl
          · rw [List.length_append, l1]; rfl) (fun s hst => by
      rcases hst with ⟨h0, _⟩ | ⟨ss, st, hi0, rfl, l1, hx⟩
      · omega
      · exact ⟨_, @nrb_2 (L+1) n [] ds zs hs os ss o 0 g A 0 0 0 0 0 0 zs.length (A + zs.length) false st [63] [] [] (by rw [zl]; exact dNlt), ss, st, rfl, l1, hx⟩)
  exact ⟨ss, st, q1, l1, hx⟩
end
end Go.Proofs.Ythcgeajojgecnaa.Fw
