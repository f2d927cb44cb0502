/- HuntSilence: in a row of small numbers nothing is found; one loud sample put in anywhere is; it holds at every input. -/
import Derived.Test.YtnccnmeecngopaaLwSiB
set_option maxRecDepth 100000
set_option maxHeartbeats 4000000
set_option exponentiation.threshold 4000
set_option linter.unusedSimpArgs false
set_option linter.unusedVariables false
namespace Go.Proofs.Ytnccnmeecngopaa.Fw
open Go Go.RowKit
theorem grid_one : grid 4096 4607182418800017408 := by
  have h := fofInt_exact (n := 1) (by decide)
  have e : fofInt 1 = 4607182418800017408 := by kernel_rfl
  rw [e] at h
  exact ⟨h.1, by rw [h.2]; kernel_rfl⟩
theorem grid_zero : grid 0 0 := by
  have h := fofInt_exact (n := 0) (by decide)
  have e : fofInt 0 = 0 := by kernel_rfl
  rw [e] at h
  exact ⟨h.1, by rw [h.2]; simp⟩
theorem grid_int {n : Int} (h : n.natAbs < 2 ^ 40) : grid (n * 4096) (fofInt n) := by
  obtain ⟨h1, h2⟩ := fofInt_exact (n := n) (Nat.lt_trans h (by decide))
  refine ⟨h1, ?_⟩
  rw [h2, Int.mul_assoc]
  congr 1
def lod (lo : Int) : Nat := fadd (fofInt (IntKind.wrap .i64 (16 + IntKind.wrap .i64 ((BitVec.ofInt 64 lo &&& BitVec.ofInt 64 255).toNat : Int)))) 4607182418800017408
theorem lod_grid (lo : Int) : ∃ w : Int, 17 ≤ w ∧ w ≤ 300 ∧ grid (w * 4096) (lod lo) := by
  have hc : (BitVec.ofInt 64 lo &&& BitVec.ofInt 64 255).toNat ≤ 255 := by
    have : (BitVec.ofInt 64 lo &&& BitVec.ofInt 64 255).toNat ≤ (BitVec.ofInt 64 255).toNat := by rw [BitVec.toNat_and]; exact Nat.and_le_right
    exact this
  generalize hcc : (BitVec.ofInt 64 lo &&& BitVec.ofInt 64 255).toNat = c at hc
  refine ⟨17 + c, by omega, by omega, ?_⟩
  unfold lod
  rw [hcc, wrap_id (n := (c : Int)) (by omega), wrap_id (by omega)]
  have h := grid_add (grid_int (n := 16 + (c : Int)) (by omega)) grid_one (by omega)
  have e : (16 + (c : Int)) * 4096 + 4096 = (17 + (c : Int)) * 4096 := by omega
  rw [e] at h
  exact h
theorem nil36' {fr tt : Int} {H : Heap} {C : Caller} {L : Nat} (h1 : fr = 0) (h2 : tt = 0) : Con.holds ⟨fnOf, specS, L⟩ C (.any 0 [23] (MO.mk (some 36) (.slice (some 2) (.t 33) (some (.t 34)) (some (.t 35)) none) none []) [(33, .nils), (34, .int .i64 fr), (35, .int .i64 tt)] H .nils H) := by
  subst h1 h2
  rfl
section
variable {L n : Nat} {xs : List Int} {at_ lo : Int}
theorem any44 {m len : Nat} {st : List Nat} {H : Heap} {C : Caller} (h : m = min len 3000) :
    Con.holds ⟨fnOf, specS, L⟩ C (.any 0 [10] (MO.mk (some 44) (.slice (some 2) (.t 40) none (some (.t 43)) none) none []) [(40, .slc ⟨0,39,0⟩ st 2 0 len false), (43, .int .i64 (if 3000 < (len : Int) then 3000 else (len : Int)))] H (.slc ⟨0,39,0⟩ st 2 0 m false) H) := by
  have e : (if 3000 < (len : Int) then 3000 else (len : Int)) = (m : Int) := by subst h; split <;> omega
  rw [e]
  have h1 : (m : Int) ≤ (len : Int) := by omega
  have h2 : m ≤ len := by omega
  simp [Con.holds, stepOp, opSem, Opd.ev, Env.get, sliceSem, optEv, bnd, h1, h2]
theorem any62 {m k : Nat} {H : Heap} {C : Caller} (h0 : 0 < m) (hm : m ≤ 3000) (hk : (k : Int) = (IntKind.wrap .u64 at_).tmod m) :
    Con.holds ⟨fnOf, specS, L⟩ C (.any 0 [32] (MO.mk (some 62) (.bin .rem .plain (.t 58) (.t 61)) none []) [(58, .int .u64 (IntKind.wrap .u64 at_)), (61, .int .u64 (IntKind.wrap .u64 (m : Int)))] H (.int .u64 k) H) := by
  have hw : IntKind.wrap .u64 (m : Int) = (m : Int) := by
    have : IntKind.wrap .u64 (m : Int) = (m : Int) % 18446744073709551616 := rfl
    rw [this]; omega
  rw [hw]
  have hne : ¬ (m : Int) = 0 := by omega
  simp [Con.holds, stepOp, opSem, Opd.ev, Env.get, binSem, intBin, hne, hk]
  omega
theorem law7n (h28 : den ⟨fnOf, specS, L+1⟩ (n+2) 28 [] = some (.v (.bool true))) (h2 : 2 ≤ xs.length) (hm : xs.length ≤ 17592186044000) (hL : xs.length ≤ L) :
    den ⟨fnOf, specS, L+1⟩ (n+3) 7 [.lst 1 (xs.map celI), .int .i64 at_, .int .i64 lo] = some (.v (.bool true)) := by
  have hpl := prs_len (xs := xs)
  obtain ⟨m0, hx⟩ : ∃ m0, (prs xs).length = m0 + 1 := ⟨(prs xs).length - 1, by omega⟩
  have hloop := @si_loop L (n+1) xs at_ lo hm hL m0 hx
  have hl : ((prs xs).map celS).length = (prs xs).length := List.length_map ..
  obtain ⟨M, hM⟩ : ∃ M, M = min (prs xs).length 3000 := ⟨_, rfl⟩
  have hM0 : 0 < M := by omega
  obtain ⟨rows, hrows⟩ : ∃ rows, rows = (prs xs).take M := ⟨_, rfl⟩
  have hrl : rows.length = M := by rw [hrows, List.length_take]; omega
  have hat : ∀ i (hi : i < rows.length), ∃ x y, rows[i] = (pt x, pt y, false) := fun i hi => ⟨_, _, by simp [hrows]; exact prs_at (by omega)⟩
  have hq : ∀ i (hi : i < rows.length), quietS rows[i] = true := fun i hi => by obtain ⟨x, y, h⟩ := hat i hi; rw [h]; exact small_quiet
  have hcut : cutX ((prs xs).map celS) 0 M = rows.map celS := by rw [hrows, List.map_take]; rfl
  have f1 := @find_none L (n+1) rows 0 M (by omega) (by omega) (by omega) (by omega) fun i hi _ _ => hq i hi
  rw [← hcut] at f1
  obtain ⟨k, hk⟩ : ∃ k : Nat, (k : Int) = (IntKind.wrap .u64 at_).tmod M := by
    have h0 : 0 ≤ IntKind.wrap .u64 at_ := by
      have : IntKind.wrap .u64 at_ = at_ % 18446744073709551616 := rfl
      rw [this]; omega
    have : 0 ≤ (IntKind.wrap .u64 at_).tmod M := Int.tmod_nonneg _ h0
    exact ⟨((IntKind.wrap .u64 at_).tmod M).toNat, by omega⟩
  have hkM : k < M := by
    have := Int.tmod_lt_of_pos (IntKind.wrap .u64 at_) (b := (M : Int)) (by omega)
    omega
  have hkr : k < rows.length := by omega
  have hkw : IntKind.wrap .i64 (k : Int) = (k : Int) := wrap_id (by omega)
  have hkw1 : IntKind.wrap .i64 (IntKind.wrap .i64 (k : Int) + 1) = ((k + 1 : Nat) : Int) := by rw [hkw, wrap_id (by omega)]; omega
  obtain ⟨x, y, hxy⟩ := hat k hkr
  have hpk : (prs xs)[k]'(by omega) = (pt x, pt y, false) := by rw [← hxy]; simp [hrows]
  -- the loud sample
  obtain ⟨gx, bx⟩ := pt_grid x
  obtain ⟨gy, by_⟩ := pt_grid y
  obtain ⟨w, w1, w2, gw⟩ := lod_grid lo
  have ga := grid_add gx gw (by omega)
  have gb := grid_add gy grid_zero (by omega)
  have hloud : quietS (fadd (pt x) (lod lo), fadd (pt y) 0, false) = false := by
    unfold quietS
    rw [loud_grid ga gb, decide_eq_true (by omega)]; rfl
  have huse : useD (fadd (pt x) (lod lo)) (fadd (pt y) 0) = false := by
    rw [useD_grid ga gb]; exact decide_eq_false (by omega)
  have hneg : flt (fadd (pt x) (lod lo)) 0 = false := by
    rw [neg_grid ga]; exact decide_eq_false (by omega)
  obtain ⟨rows2, hr2⟩ : ∃ rows2, rows2 = rows.set k (fadd (pt x) (lod lo), fadd (pt y) 0, false) := ⟨_, rfl⟩
  have hr2l : rows2.length = M := by rw [hr2, List.length_set, hrl]
  have hr2k : rows2[k]'(by omega) = (fadd (pt x) (lod lo), fadd (pt y) 0, false) := by simp [hr2]
  have hq2 : ∀ i (hi : i < rows2.length), i ≠ k → quietS rows2[i] = true := fun i hi hne => by
    have : rows2[i] = rows[i]'(by omega) := by simp [hr2, List.getElem_set_ne (Ne.symm hne)]
    rw [this]; exact hq i _
  have hcut2 : cutX (List.set ((prs xs).map celS) (0 + k) [.cpx (fadd (pt x) (lod lo)) (fadd (pt y) 0), .v (.bool false)]) 0 M = rows2.map celS := by
    rw [hr2, List.map_set, hrows, List.map_take, Nat.zero_add]
    exact List.take_set
  have f2 := @find_some L (n+1) rows2 0 M k (by omega) (by omega) (by omega) (by omega) (by omega) (fun i hi _ h => hq2 i hi (by omega)) (by rw [hr2k]; exact hloud)
  rw [hr2k] at f2
  simp only [huse] at f2
  have ho : outcome k (fadd (pt x) (lod lo)) (fadd (pt y) 0) false = .tup [.agg [.int .i64 k, .flt (fSize (fadd (pt x) (lod lo))), .int .i64 0], .int .i64 0] := by
    unfold outcome
    simp only [cond_false, hneg, fQ]
  rw [ho, ← hcut2] at f2
  have f3 := @find_none L (n+1) rows2 0 k (by omega) (by omega) (by omega) (by omega) fun i hi _ h => hq2 i hi (by omega)
  have f4 := @find_none L (n+1) rows2 (k + 1) M (by omega) (by omega) (by omega) (by omega) fun i hi h _ => hq2 i hi (by omega)
  rw [← hcut2] at f3 f4
  rw [← hkw] at f3
  rw [← hkw1] at f4
  have hle : Con.holds ⟨fnOf, specS, L+1⟩ (runF ⟨fnOf, specS, L+1⟩ (n+2)) (.le (0 + M) ((prs xs).map celS).length) := by show _ ≤ _; omega
  have hle2 : Con.holds ⟨fnOf, specS, L+1⟩ (runF ⟨fnOf, specS, L+1⟩ (n+2)) (.le (0 + M) (List.set ((prs xs).map celS) (0 + k) [.cpx (fadd (pt x) (lod lo)) (fadd (pt y) 0), .v (.bool false)]).length) := by show _ ≤ _; rw [List.length_set]; omega
  exact @si7_1 (L+1) (n+2) k (pt x) (pt y) M at_ lo ((2 * (m0 + 1) : Nat) : Int) 0 0 0 0 0 0 0 0 0 (fSize (fadd (pt x) (lod lo))) 0 0 (xs.map celI) ((prs xs).map celS) [18, m0, 5] false
    (call_den h28) hloop (any44 (by rw [hl]; exact hM)) (call_den f1) hle (by simp; omega) (any62 hM0 (by omega) hk) (by rw [hkw]; exact ix_at hkM)
    (by show _ = _; rw [Nat.zero_add, map_at (by omega), hpk]; rfl) (call_den f2) hle2 (call_den f3) (call_den f4) (by rw [hkw]; exact beqSame)
theorem works28 {K m : Nat} : den ⟨fnOf, specS, K+20⟩ (m+20) 28 [] = some (.v (.bool true)) := by kernel_rfl
theorem nil19 {K m : Nat} : den ⟨fnOf, specS, K+6⟩ (m+1) 19 [.nils, .int .i64 0, .int .i64 0] = some (.tup [.agg [.int .i64 0, .flt 0, .int .i64 0], .int .i64 6]) :=
  @fdnil_3 (K+1) m 0 0 (dF (by decide)) (dF (by decide)) (dF (by decide)) (nil36' rfl rfl)
theorem law7e {K m : Nat} (h1 : xs.length ≤ 1) : den ⟨fnOf, specS, K+20⟩ (m+21) 7 [.lst 1 (xs.map celI), .int .i64 at_, .int .i64 lo] = some (.v (.bool true)) :=
  @si7n_0 (K+20) (m+20) at_ lo 0 0 0 0 (xs.map celI) (call_den works28) (@si_loop0 (K+19) (m+20) xs at_ lo h1) (call_den (@nil19 (K+14) (m+19)))
theorem law7x {K m : Nat} : den ⟨fnOf, specS, K+20⟩ (m+21) 7 [.nils, .int .i64 at_, .int .i64 lo] = some (.v (.bool true)) :=
  @si7x_0 (K+15) (m+20) at_ lo 0 0 0 (call_den works28) (call_den (@nil19 (K+14) (m+19)))
end
/-- what the law is handed -/
theorem fits7 {avs : List AV} (h : FitsVs Try.prog 8 Try.f7.params.toList avs) : ∃ (a13 : AV) (x22 : Int) (x27 : Int), avs = [a13, AV.v (.int .i64 x22), AV.v (.int .i64 x27)] ∧ (a13 = AV.nils ∨ ∃ els : List (List AV), a13 = AV.lst 1 els ∧ els.length * 8 ≤ reachBytes ∧ ∀ e15 ∈ els, ∃ (x17 : Int), e15 = [AV.v (.int .i64 x17)] ∧ (Lit.int .i64 x17).wf = true) ∧ (Lit.int .i64 x22).wf = true ∧ (Lit.int .i64 x27).wf = true := by
  replace h : FitsVs Try.prog 8 [22, 3, 3] avs := by rw [Try.params7] at h; exact h
  obtain ⟨a1, r2, rfl, h3, h⟩ := fitsVs_cons h
  obtain ⟨a4, r5, rfl, h6, h⟩ := fitsVs_cons h
  obtain ⟨a7, r8, rfl, h9, h⟩ := fitsVs_cons h
  obtain rfl := fitsVs_nil h
  have h10 := fitsV_slice Try.underlying22 h3
  obtain ⟨c11, h12⟩ : ∃ c, c = [a1] := ⟨_, rfl⟩
  rw [← h12] at h10
  obtain ⟨a13, rfl, w14⟩ : ∃ (a13 : AV), _ = [a13] ∧ (a13 = AV.nils ∨ ∃ els : List (List AV), a13 = AV.lst 1 els ∧ els.length * 8 ≤ reachBytes ∧ ∀ e15 ∈ els, ∃ (x17 : Int), e15 = [AV.v (.int .i64 x17)] ∧ (Lit.int .i64 x17).wf = true) := by
    rcases fits_slice (n := 7) Try.underlying22 h10 with hh | ⟨els, hh, h1, h2⟩
    · exact ⟨_, hh, .inl rfl⟩
    · refine ⟨_, hh, .inr ⟨els, ?_, ?_, fun e15 he => ?_⟩⟩
      · rw [show Try.prog.cellsOf 3 = 1 by kernel_rfl]
      · rw [show Try.prog.bytesOf 3 = 8 by kernel_rfl] at h1; exact h1
      · have h16 := h2 _ he
        obtain ⟨x17, rfl, w18⟩ := fits_int (n := 6) Try.underlying3 h16
        exact ⟨x17, rfl, w18⟩
  obtain rfl := one_inj h12
  have h19 := fitsV_int Try.underlying3 h6
  obtain ⟨c20, h21⟩ : ∃ c, c = [a4] := ⟨_, rfl⟩
  rw [← h21] at h19
  obtain ⟨x22, rfl, w23⟩ := fits_int (n := 7) Try.underlying3 h19
  obtain rfl := one_inj h21
  have h24 := fitsV_int Try.underlying3 h9
  obtain ⟨c25, h26⟩ : ∃ c, c = [a7] := ⟨_, rfl⟩
  rw [← h26] at h24
  obtain ⟨x27, rfl, w28⟩ := fits_int (n := 7) Try.underlying3 h24
  obtain rfl := one_inj h26
  exact ⟨a13, x22, x27, rfl, w14, w23, w28⟩

theorem calls7 {avs : List AV} {W : World} {args : Array Value} (h : FitsVs Try.prog 8 Try.f7.params.toList avs) (hr : RelL (ρ0 fun _ => False) old0 W avs args.toList) :
    Calls Try.prog 7 args W fun e w' => e = .returned (.bool true) ∧ Below W.heap.size W w' := by
  obtain ⟨l, at_, lo, rfl, hx⟩ := fits7 h
  obtain ⟨hb, _⟩ := hx
  rcases hb with rfl | ⟨els, rfl, hl, he⟩
  · exact law (spec_s _) (law7x (K := 0) (m := 0)) hr
  · obtain ⟨xs, rfl⟩ := all_map (f := celI) (fun e h => by obtain ⟨a, rfl, _⟩ := he e h; exact ⟨a, rfl⟩)
    rw [List.length_map] at hl
    by_cases h2 : 2 ≤ xs.length
    · have hm : xs.length ≤ 17592186044000 := by
        have : reachBytes = 140737488351232 := by kernel_rfl
        omega
      exact law (spec_s _) (law7n (L := xs.length + 19) (n := 18) (works28 (K := xs.length) (m := 0)) h2 hm (by omega)) hr
    · exact law (spec_s _) (law7e (K := 0) (m := 0) (by omega)) hr
end Go.Proofs.Ytnccnmeecngopaa.Fw
namespace Go.Proofs.Ytnccnmeecngopaa
open Go.ChangeShapes Go.WideShapes Go.ChangeAt Go.RowKit Fw
theorem silence_lifted (os : Os) (started : os.Started) (H : Type) (enc : TypeId × Value → H) :
    ReturnsInHanded {} Try.checked os 7 .any (Rows.huntSilenceSpec.pre6 enc Try.prog Try.f7 Rows.huntSilenceRow.domain false) (Rows.huntSilenceSpec.post enc Try.prog Try.f7 false true false false) := by
  refine law_lifted (C := Try.checked) (n := 8) (tb := 4) own started (by kernel_rfl) Try.func7
    (ChangeSpec.witness6 (enc := enc) (C := Try.checked) false ⟨#[], #[.slice none 0 0, .int .i64 0, .int .i64 0], []⟩ 8 (by kernel_rfl) (by kernel_rfl) (by kernel_rfl) (by kernel_rfl))
    laidOut (by kernel_rfl) (by kernel_rfl) rfl ?_ rfl Try.underlying4 fun _ _ _ h hr => calls7 h hr
  intro ds hd
  have hd : ds.length = 3 := hd
  rcases ds with _ | ⟨a, _ | ⟨b, _ | ⟨c, _ | ⟨d, r⟩⟩⟩⟩ <;> simp at hd
  rfl
theorem silence_holds : Rows.HuntSilenceSaid :=
  OpenClaim.holds_of_wide 7 Try.f7 rfl rfl rfl rfl rfl rfl rfl ⟨rfl, rfl, rfl, rfl, rfl⟩ rfl rfl rfl rfl rfl (by kernel_rfl) Try.func7 (by kernel_rfl)
    (of_decide_eq_true (by kernel_rfl)) (by unfold Func.isWrapper; first | (rw [if_pos (by decide +kernel)]; kernel_rfl) | (rw [if_neg (by decide +kernel)]; exact ⟨rfl, rfl⟩))
    (fun os started H enc _ => silence_lifted os started H enc)
end Go.Proofs.Ytnccnmeecngopaa
