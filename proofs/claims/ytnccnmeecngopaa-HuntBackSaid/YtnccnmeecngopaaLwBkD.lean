/- HuntBack: undone it is itself; both rows' markers. -/
import Derived.Test.YtnccnmeecngopaaLwBkC
set_option maxRecDepth 100000
set_option maxHeartbeats 4000000
set_option exponentiation.threshold 4000
set_option linter.unusedSimpArgs false
set_option linter.unusedVariables false
namespace Go.Proofs.Ytnccnmeecngopaa.Fw
open Go Go.RowKit
theorem undo_back {L n q : Nat} {s : Smp} {z : Int × Int} {sh : Int} (hq : q < 4) (hs : sh = 1 ∨ sh = 2 ∨ sh = 4) (ga : grid z.1 s.1) (gb : grid z.2 s.2.1) (b1 : z.1.natAbs < 2 ^ 53) (b2 : z.2.natAbs < 2 ^ 53) :
    ∃ ba bb, den ⟨fnOf, specS, L+5⟩ (n+1) 16 [.cpx (fmul (trn q s).1 (fdiv 4607182418800017408 (fofInt sh))) (fmul (trn q s).2.1 (fdiv 4607182418800017408 (fofInt sh))), .agg [.int .i64 0, .flt (fdiv 4607182418800017408 (fofInt sh)), .int .i64 (q : Nat)]] =
      some (.tup [.cpx ba bb, .int .i64 0]) ∧ feq ba s.1 = true ∧ feq bb s.2.1 = true := by
  obtain ⟨a, b, lost⟩ := s
  obtain ⟨x, y⟩ := z
  rcases hs with rfl | rfl | rfl
  · rw [show fdiv 4607182418800017408 (fofInt 1) = 4607182418800017408 by kernel_rfl]
    match q, hq with
    | 0, _ => exact ⟨_, _, bu16_0_0_0, back0 ga b1 vl_1 vl_1 (by decide) (by decide) (by decide), back0 gb b2 vl_1 vl_1 (by decide) (by decide) (by decide)⟩
    | 1, _ => exact ⟨_, _, bu16_0_1_0, back0 ga b1 vl_1 vl_1 (by decide) (by decide) (by decide), back1 gb b2 vl_1 vl_1 (by decide) (by decide) (by decide)⟩
    | 2, _ => exact ⟨_, _, bu16_0_2_0, back1 ga b1 vl_1 vl_1 (by decide) (by decide) (by decide), back1 gb b2 vl_1 vl_1 (by decide) (by decide) (by decide)⟩
    | 3, _ => exact ⟨_, _, bu16_0_3_0, back1 ga b1 vl_1 vl_1 (by decide) (by decide) (by decide), back2 gb b2 vl_1 vl_1 (by decide) (by decide) (by decide)⟩
  · rw [show fdiv 4607182418800017408 (fofInt 2) = 4602678819172646912 by kernel_rfl]
    match q, hq with
    | 0, _ => exact ⟨_, _, bu16_1_0_0, back0 ga b1 vl_h vl_2 (by decide) (by decide) (by decide), back0 gb b2 vl_h vl_2 (by decide) (by decide) (by decide)⟩
    | 1, _ => exact ⟨_, _, bu16_1_1_0, back0 ga b1 vl_h vl_2 (by decide) (by decide) (by decide), back1 gb b2 vl_h vl_2 (by decide) (by decide) (by decide)⟩
    | 2, _ => exact ⟨_, _, bu16_1_2_0, back1 ga b1 vl_h vl_2 (by decide) (by decide) (by decide), back1 gb b2 vl_h vl_2 (by decide) (by decide) (by decide)⟩
    | 3, _ => exact ⟨_, _, bu16_1_3_0, back1 ga b1 vl_h vl_2 (by decide) (by decide) (by decide), back2 gb b2 vl_h vl_2 (by decide) (by decide) (by decide)⟩
  · rw [show fdiv 4607182418800017408 (fofInt 4) = 4598175219545276416 by kernel_rfl]
    match q, hq with
    | 0, _ => exact ⟨_, _, bu16_2_0_0, back0 ga b1 vl_q vl_4 (by decide) (by decide) (by decide), back0 gb b2 vl_q vl_4 (by decide) (by decide) (by decide)⟩
    | 1, _ => exact ⟨_, _, bu16_2_1_0, back0 ga b1 vl_q vl_4 (by decide) (by decide) (by decide), back1 gb b2 vl_q vl_4 (by decide) (by decide) (by decide)⟩
    | 2, _ => exact ⟨_, _, bu16_2_2_0, back1 ga b1 vl_q vl_4 (by decide) (by decide) (by decide), back1 gb b2 vl_q vl_4 (by decide) (by decide) (by decide)⟩
    | 3, _ => exact ⟨_, _, bu16_2_3_0, back1 ga b1 vl_q vl_4 (by decide) (by decide) (by decide), back2 gb b2 vl_q vl_4 (by decide) (by decide) (by decide)⟩
section
variable {L n : Nat}
def Gr (s : Smp) : Prop := ∃ z : Int × Int, grid z.1 s.1 ∧ grid z.2 s.2.1 ∧ s.2.2 = false
theorem grid_z0 : grid 0 0 := by
  have h := fofInt_exact (n := 0) (by decide)
  have e : fofInt 0 = 0 := by kernel_rfl
  rw [e] at h
  exact ⟨h.1, by rw [h.2]; simp⟩
theorem zero_quiet : quietS zS = true := by
  unfold quietS
  rw [loud_grid grid_z0 grid_z0]; rfl
theorem quiet_turn {q : Nat} {s : Smp} (h : Gr s) : quietS (trz q s) = quietS s := by
  obtain ⟨z, h1, h2, h3⟩ := h
  obtain ⟨g1, g2, _⟩ := trn_grid (n := q) (s := s) (z := z) h1 h2
  unfold quietS
  rw [show (trz q s).1 = (trn q s).1 from rfl, show (trz q s).2.1 = (trn q s).2.1 from rfl, show (trz q s).2.2 = false from rfl, loud_grid g1 g2, h3, loud_grid h1 h2]
  rcases trI_abs q z with ⟨e1, e2⟩ | ⟨e1, e2⟩
  · rw [e1, e2]
  · rw [e1, e2, Bool.or_comm]
theorem find_ab {ra : List Smp} {q l : Nat} (hg : ∀ s ∈ ra, Gr s) (hq : q < 4) (hl : l ≤ 100) (hr : ra.length ≤ 500) (hL : 600 ≤ L) :
    (den ⟨fnOf, specS, L+1⟩ (n+1) 19 [.lst 2 (ra.map celS), .int .i64 0, .int .i64 ra.length] = some (.tup [.agg [.int .i64 0, .flt 0, .int .i64 0], .int .i64 6]) ∧
      den ⟨fnOf, specS, L+1⟩ (n+1) 19 [.lst 2 ((List.replicate l zS ++ ra.map (trz q)).map celS), .int .i64 0, .int .i64 (List.replicate l zS ++ ra.map (trz q)).length] = some (.tup [.agg [.int .i64 0, .flt 0, .int .i64 0], .int .i64 6])) ∨
    ∃ k, ∃ hk : k < ra.length, ∃ z : Int × Int, grid z.1 ra[k].1 ∧ grid z.2 ra[k].2.1 ∧ ra[k].2.2 = false ∧
      den ⟨fnOf, specS, L+1⟩ (n+1) 19 [.lst 2 (ra.map celS), .int .i64 0, .int .i64 ra.length] = some (.tup [.agg [.int .i64 k, .flt (szG (max z.1.natAbs z.2.natAbs)), .int .i64 (qI z.1 z.2)], .int .i64 0]) ∧
      den ⟨fnOf, specS, L+1⟩ (n+1) 19 [.lst 2 ((List.replicate l zS ++ ra.map (trz q)).map celS), .int .i64 0, .int .i64 (List.replicate l zS ++ ra.map (trz q)).length] = some (.tup [.agg [.int .i64 ((l + k : Nat) : Int), .flt (szG (max z.1.natAbs z.2.natAbs)), .int .i64 (qI (trI q z).1 (trI q z).2)], .int .i64 0]) := by
  obtain ⟨rb, hrb⟩ : ∃ rb, rb = List.replicate l zS ++ ra.map (trz q) := ⟨_, rfl⟩
  have hbl : rb.length = l + ra.length := by rw [hrb, List.length_append, List.length_replicate, List.length_map]
  have hb0 : ∀ i (hi : i < rb.length), i < l → rb[i] = zS := fun i hi h => by simp [hrb, List.getElem_append, h]
  have hb1 : ∀ i (hi : i < rb.length), (h : l ≤ i) → rb[i] = trz q (ra[i - l]'(by omega)) := fun i hi h => by
    have : ¬ i < l := by omega
    simp [hrb, List.getElem_append, this]
  rw [← hrb]
  rcases firstBad quietS ra with hall | ⟨k, hk, h1, h2⟩
  · left
    have ha : ∀ i (hi : i < ra.length), quietS ra[i] = true := fun i hi => List.all_eq_true.1 hall _ (List.getElem_mem hi)
    refine ⟨@find_none L n ra 0 ra.length (by omega) (by omega) (by omega) (by omega) fun i hi _ _ => ha i hi, @find_none L n rb 0 rb.length (by omega) (by omega) (by omega) (by omega) fun i hi _ _ => ?_⟩
    by_cases h : i < l
    · rw [hb0 i hi h]; exact zero_quiet
    · rw [hb1 i hi (by omega), quiet_turn (hg _ (List.getElem_mem _))]; exact ha _ _
  · right
    obtain ⟨z, g1, g2, g3⟩ := hg ra[k] (List.getElem_mem hk)
    have hbk : rb[l + k]'(by omega) = trz q ra[k] := by
      rw [hb1 (l + k) (by omega) (by omega)]
      congr 1
      simp
    obtain ⟨t1, t2, _⟩ := trn_grid (n := q) (s := ra[k]) (z := z) g1 g2
    have f1 := @find_some L n ra 0 ra.length k (by omega) (by omega) (by omega) (by omega) hk (fun i hi _ h => h1 i h) h2
    rw [outcome_grid g1 g2] at f1
    have f2 := @find_some L n rb 0 rb.length (l + k) (by omega) (by omega) (by omega) (by omega) (by omega) (fun i hi _ h => by
      by_cases hi2 : i < l
      · rw [hb0 i hi hi2]; exact zero_quiet
      · rw [hb1 i hi (by omega), quiet_turn (hg _ (List.getElem_mem _))]; exact h1 (i - l) (by omega)) (by rw [hbk, quiet_turn (hg _ (List.getElem_mem hk))]; exact h2)
    simp only [hbk] at f2
    rw [show (trz q ra[k]).1 = (trn q ra[k]).1 from rfl, show (trz q ra[k]).2.1 = (trn q ra[k]).2.1 from rfl, outcome_grid t1 t2] at f2
    have hmx : max (trI q z).1.natAbs (trI q z).2.natAbs = max z.1.natAbs z.2.natAbs := by
      rcases trI_abs q z with ⟨e1, e2⟩ | ⟨e1, e2⟩
      · rw [e1, e2]
      · rw [e1, e2, Nat.max_comm]
    rw [hmx] at f2
    exact ⟨k, hk, z, g1, g2, g3, f1, f2⟩
theorem prz_gr {xs : List Int} {m : Nat} : ∀ s ∈ (prz xs).take m, Gr s := by
  intro s hs
  have hs := List.mem_of_mem_take hs
  unfold prz at hs
  rw [List.mem_map] at hs
  obtain ⟨j, _, rfl⟩ := hs
  exact ⟨(_, _), (pz_grid _).1, (pz_grid _).1, rfl⟩
theorem any34 {L : Nat} {size : Int} {C : Caller} {H : Heap} : ∃ sh : Int, (sh = 1 ∨ sh = 2 ∨ sh = 4) ∧
    Con.holds ⟨fnOf, specS, L⟩ C (.any 0 [6] (MO.mk (some 34) (.bin .shl .plain (.k (.int .i64 1)) (.t 33)) none []) [(33, .int .u64 ((IntKind.wrap .u64 size).tmod 3))] H (.int .i64 sh) H) := by
  have h0 : 0 ≤ IntKind.wrap .u64 size := by
    have : IntKind.wrap .u64 size = size % 18446744073709551616 := rfl
    rw [this]; omega
  have h1 : 0 ≤ (IntKind.wrap .u64 size).tmod 3 := Int.tmod_nonneg _ h0
  have h2 := Int.tmod_lt_of_pos (IntKind.wrap .u64 size) (b := 3) (by decide)
  generalize (IntKind.wrap .u64 size).tmod 3 = r at *
  have : r = 0 ∨ r = 1 ∨ r = 2 := by omega
  rcases this with rfl | rfl | rfl
  · exact ⟨1, .inl rfl, rfl⟩
  · exact ⟨2, .inr (.inl rfl), rfl⟩
  · exact ⟨4, .inr (.inr rfl), rfl⟩
theorem quart {quarters : Int} : ∃ q : Nat, q < 4 ∧ IntKind.wrap .i64 ((IntKind.wrap .u64 quarters).tmod 4) = (q : Int) := by
  have h0 : 0 ≤ IntKind.wrap .u64 quarters := by
    have : IntKind.wrap .u64 quarters = quarters % 18446744073709551616 := rfl
    rw [this]; omega
  have h1 : 0 ≤ (IntKind.wrap .u64 quarters).tmod 4 := Int.tmod_nonneg _ h0
  have h2 := Int.tmod_lt_of_pos (IntKind.wrap .u64 quarters) (b := 4) (by decide)
  refine ⟨((IntKind.wrap .u64 quarters).tmod 4).toNat, by omega, ?_⟩
  rw [wrap_id (by omega)]; omega
theorem lateN {late : Int} : ∃ l : Nat, l ≤ 63 ∧ IntKind.wrap .i64 ((BitVec.ofInt 64 late &&& BitVec.ofInt 64 63).toNat : Int) = (l : Int) := by
  have hc : (BitVec.ofInt 64 late &&& BitVec.ofInt 64 63).toNat ≤ 63 := by
    have : (BitVec.ofInt 64 late &&& BitVec.ofInt 64 63).toNat ≤ (BitVec.ofInt 64 63).toNat := by rw [BitVec.toNat_and]; exact Nat.and_le_right
    exact this
  exact ⟨_, hc, wrap_id (by omega)⟩
end
end Go.Proofs.Ytnccnmeecngopaa.Fw
