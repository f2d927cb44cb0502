/- HuntFinds: both Finds answer the same for any row. -/
import Derived.Test.YtnccnmeecngopaaLwFnE
set_option maxRecDepth 100000
set_option maxHeartbeats 4000000
set_option linter.unusedSimpArgs false
set_option linter.unusedVariables false
namespace Go.Proofs.Ytnccnmeecngopaa.Fw
open Go Go.RowKit
def quietS (s : Smp) : Bool := !loud s.1 s.2.1 s.2.2
theorem fSize_num (m : Nat) : feq (fSize m) (fSize m) = true := by
  unfold fSize
  cases fge (absF m) 4636455816377925632 <;> cases fge (absF m) 4631952216750555136 <;> kernel_rfl
section
variable {L n : Nat}
theorem fd_go {fr : Int} {sub : List Smp} {i : Nat} {π : List Nat} (hm : sub.length ≤ 65536) (hi : i < sub.length) (hq : quietS sub[i] = true) :
    seeZ 0 [1, 6, 36, 37, 38] m19.res (bodyOf ⟨fnOf, specS, L⟩ (runF ⟨fnOf, specS, L⟩ n) 0 m19b0 (i :: π) (FdSt fr (sub.map celS) i)) = some (.go .nrm (FdSt fr (sub.map celS) (i + 1))) := by
  have hi' : i < (sub.map celS).length := by rw [List.length_map]; exact hi
  have he := el_at (P := ⟨fnOf, specS, L⟩) (C := runF ⟨fnOf, specS, L⟩ n) (map_at (f := celS) hi)
  have := @fd_ok L n fr (sub.map celS) i sub[i].1 sub[i].2.1 sub[i].2.2 π (fun _ => he)
  rw [fd_eq hi', wrapUp hi (by omega)] at this
  have hl : loud sub[i].1 sub[i].2.1 sub[i].2.2 = false := by simpa [quietS] using hq
  rw [hl] at this
  exact this
theorem fd_out {fr : Int} {sub : List Smp} {i : Nat} {π : List Nat} (hi : i < sub.length) (hq : quietS sub[i] = false) :
    seeZ 0 [1, 6, 36, 37, 38] m19.res (bodyOf ⟨fnOf, specS, L⟩ (runF ⟨fnOf, specS, L⟩ n) 0 m19b0 (i :: π) (FdSt fr (sub.map celS) i)) = some (.out (outcome (IntKind.wrap .i64 (fr + i)) sub[i].1 sub[i].2.1 (useD sub[i].1 sub[i].2.1))) := by
  have hi' : i < (sub.map celS).length := by rw [List.length_map]; exact hi
  have he := el_at (P := ⟨fnOf, specS, L⟩) (C := runF ⟨fnOf, specS, L⟩ n) (map_at (f := celS) hi)
  have := @fd_ok L n fr (sub.map celS) i sub[i].1 sub[i].2.1 sub[i].2.2 π (fun _ => he)
  rw [fd_eq hi'] at this
  have hl : loud sub[i].1 sub[i].2.1 sub[i].2.2 = true := by simpa [quietS] using hq
  rw [hl] at this
  exact this
theorem fe_go {tt : Int} {rows : List Smp} {i k : Nat} {π : List Nat} (hm : rows.length ≤ 65536) (hi : i < rows.length) (ht : (i : Int) < tt) (hq : quietS rows[i] = true) :
    seeZ 0 [0, 2, 6, 8] m20.res (bodyOf ⟨fnOf, specS, L⟩ (runF ⟨fnOf, specS, L⟩ n) 0 m20b0 (k :: π) (FeSt tt (rows.map celS) i)) = some (.go .nrm (FeSt tt (rows.map celS) ((i + 1 : Nat) : Int))) := by
  have he := el_at (P := ⟨fnOf, specS, L⟩) (C := runF ⟨fnOf, specS, L⟩ n) (map_at (f := celS) hi)
  have := @fe_ok L n tt i k (rows.map celS) rows[i].1 rows[i].2.1 rows[i].2.2 π (fun _ => he)
  rw [fe_eq ht, wrapUp hi (by omega)] at this
  have hl : loud rows[i].1 rows[i].2.1 rows[i].2.2 = false := by simpa [quietS] using hq
  rw [hl] at this
  exact this
theorem fe_out {tt : Int} {rows : List Smp} {i k : Nat} {π : List Nat} (hi : i < rows.length) (ht : (i : Int) < tt) (hq : quietS rows[i] = false) :
    seeZ 0 [0, 2, 6, 8] m20.res (bodyOf ⟨fnOf, specS, L⟩ (runF ⟨fnOf, specS, L⟩ n) 0 m20b0 (k :: π) (FeSt tt (rows.map celS) i)) = some (.out (outcome i rows[i].1 rows[i].2.1 (useD rows[i].1 rows[i].2.1))) := by
  have he := el_at (P := ⟨fnOf, specS, L⟩) (C := runF ⟨fnOf, specS, L⟩ n) (map_at (f := celS) hi)
  have := @fe_ok L n tt i k (rows.map celS) rows[i].1 rows[i].2.1 rows[i].2.2 π (fun _ => he)
  rw [fe_eq ht] at this
  have hl : loud rows[i].1 rows[i].2.1 rows[i].2.2 = true := by simpa [quietS] using hq
  rw [hl, ← use_same hl] at this
  exact this
theorem slc36 {els : List (List AV)} {fr tt : Nat} {C : Caller} {H : Heap} (h1 : fr ≤ tt) (h2 : tt ≤ els.length) :
    Con.holds ⟨fnOf, specS, L⟩ C (.any 0 [23] (MO.mk (some 36) (.slice (some 2) (.t 33) (some (.t 34)) (some (.t 35)) none) none []) [(33, .lst 2 els), (34, .int .i64 fr), (35, .int .i64 tt)] H (.lst 2 ((els.take tt).drop fr)) H) := by
  have h3 : (tt : Int) ≤ (els.length : Int) := by omega
  have h4 : (fr : Int) ≤ (tt : Int) := by omega
  simp [Con.holds, stepOp, opSem, Opd.ev, Env.get, sliceSem, optEv, bnd, h2, h1]
/-- an answer: a place, a size that is a number, quarters and an error -/
def Ans (rows : List Smp) (R : AV) : Prop := ∃ (p : Int) (sz : Nat) (q e : Int), R = .tup [.agg [.int .i64 p, .flt sz, .int .i64 q], .int .i64 e] ∧ feq sz sz = true ∧ (e = 0 → 0 ≤ p ∧ p < rows.length)
theorem ans_err {rows : List Smp} {e : Int} (h : e ≠ 0) : Ans rows (.tup [.agg [.int .i64 0, .flt 0, .int .i64 0], .int .i64 e]) := ⟨0, 0, 0, e, rfl, by kernel_rfl, fun h1 => absurd h1 h⟩
theorem find_both {rows : List Smp} {fr tt : Int} (hL : rows.length ≤ L) :
    ∃ R, Ans rows R ∧ den ⟨fnOf, specS, L+1⟩ (n+1) 19 [.lst 2 (rows.map celS), .int .i64 fr, .int .i64 tt] = some R ∧ den ⟨fnOf, specS, L+1⟩ (n+1) 20 [.lst 2 (rows.map celS), .int .i64 fr, .int .i64 tt] = some R := by
  have hl : (rows.map celS).length = rows.length := List.length_map ..
  by_cases c1 : rows.length > 65536
  · exact ⟨_, ans_err (by decide), fdn_0 (sub := []) (dT (by rw [hl]; omega)), fen_0 (i := 0) (dT (by rw [hl]; omega))⟩
  have b1 : decide (((rows.map celS).length : Int) > 65536) = false := dF (by rw [hl]; omega)
  by_cases c2 : fr < 0
  · exact ⟨_, ans_err (by decide), fdn_1 (sub := []) b1 (dT c2), fen_1 (i := 0) b1 (dT c2)⟩
  by_cases c3 : fr > tt
  · exact ⟨_, ans_err (by decide), fdn_2 (sub := []) b1 (dF c2) (dT c3), fen_2 (i := 0) b1 (dF c2) (dT c3)⟩
  by_cases c4 : tt > (rows.length : Int)
  · exact ⟨_, ans_err (by decide), fdn_3 (sub := []) b1 (dF c2) (dF c3) (dT (by rw [hl]; exact c4)), fen_3 (i := 0) b1 (dF c2) (dF c3) (dT (by rw [hl]; exact c4))⟩
  have b4 : decide (tt > ((rows.map celS).length : Int)) = false := dF (by rw [hl]; exact c4)
  obtain ⟨f, rfl⟩ : ∃ f : Nat, fr = f := ⟨fr.toNat, by omega⟩
  obtain ⟨t, rfl⟩ : ∃ t : Nat, tt = t := ⟨tt.toNat, by omega⟩
  have hft : f ≤ t := by omega
  have htl : t ≤ rows.length := by omega
  obtain ⟨sub, hsub⟩ : ∃ sub, sub = (rows.take t).drop f := ⟨_, rfl⟩
  have hss : ((rows.map celS).take t).drop f = sub.map celS := by rw [hsub, List.map_drop, List.map_take]
  have hsl : sub.length = t - f := by rw [hsub, List.length_drop, List.length_take]; omega
  have hat : ∀ i (hi : i < sub.length), sub[i] = rows[f + i]'(by omega) := fun i hi => by simp [hsub]
  have h36 := slc36 (L := L+1) (els := rows.map celS) (fr := f) (tt := t) (C := runF ⟨fnOf, specS, L+1⟩ n) (H := [(⟨0,6,0⟩, ⟨[0], [[.int .i64 0, .flt 0, .int .i64 0]], 3, true⟩)]) hft (by rw [hl]; exact htl)
  rw [hss] at h36
  rcases firstBad quietS sub with hall | ⟨k, hk, h1, h2⟩
  · have hd : Con.holds ⟨fnOf, specS, L+1⟩ (runF ⟨fnOf, specS, L+1⟩ n) (.loop 0 [1, 6, 36, 37, 38] m19b0 [26] (FdSt f (sub.map celS) 0) (.exit 0) (FdEx f (sub.map celS))) := by
      refine loopX (res := m19.res) (FdSt f (sub.map celS)) (sub.map celS).length rfl (by rw [List.length_map]; omega) (fun i hi => ?_) ?_ (by simp)
      · have hi' : i < sub.length := by rw [List.length_map] at hi; exact hi
        exact fd_go (by omega) hi' (List.all_eq_true.1 hall _ (List.getElem_mem hi'))
      · exact @fd_38 (L+1) n f (sub.map celS) (sub.map celS).length 0 0 false [26] dNlt
    have he : Con.holds ⟨fnOf, specS, L+1⟩ (runF ⟨fnOf, specS, L+1⟩ n) (.loop 0 [0, 2, 6, 8] m20b0 [22] (FeSt t (rows.map celS) ((f + 0 : Nat) : Int)) (.exit 0) (FeEx t (rows.map celS) ((f + sub.length : Nat) : Int))) := by
      refine loopX (res := m20.res) (fun i => FeSt t (rows.map celS) ((f + i : Nat) : Int)) sub.length rfl (by omega) (fun i hi => ?_) ?_ (by simp)
      · have := hat i hi
        exact fe_go (by omega) (by omega) (by omega) (by rw [← this]; exact List.all_eq_true.1 hall _ (List.getElem_mem hi))
      · exact @fe_50 (L+1) n t ((f + sub.length : Nat) : Int) sub.length (rows.map celS) 0 0 false [22] (dF (by omega))
    exact ⟨_, ans_err (by decide), fdn_4 b1 (dF c2) (dF c3) b4 h36 hd, fen_4 b1 (dF c2) (dF c3) b4 he⟩
  · have hf : IntKind.wrap .i64 ((f : Int) + (k : Int)) = ((f + k : Nat) : Int) := by rw [wrap_id (by omega)]; omega
    obtain ⟨s1, hd, ho1⟩ := loopZ (P := ⟨fnOf, specS, L+1⟩) (C := runF ⟨fnOf, specS, L+1⟩ n) (π := [26]) (FdSt f (sub.map celS)) k rfl (by omega) (fun i hi => fd_go (by omega) (by omega) (h1 i hi)) (fd_out hk h2)
    obtain ⟨s2, he, ho2⟩ := loopZ (P := ⟨fnOf, specS, L+1⟩) (C := runF ⟨fnOf, specS, L+1⟩ n) (π := [22]) (fun i => FeSt t (rows.map celS) ((f + i : Nat) : Int)) k rfl (by omega) (fun i hi => fe_go (by omega) (by omega) (by omega) (by rw [← hat i (by omega)]; exact h1 i hi)) (fe_out (by omega) (by omega) (by rw [← hat k hk]; exact h2))
    rw [hf, hat k hk] at ho1
    refine ⟨_, ?_, fdt_4 b1 (dF c2) (dF c3) b4 h36 hd ho1, fet_4 b1 (dF c2) (dF c3) b4 he ho2⟩
    refine ⟨_, _, _, _, rfl, ?_, fun _ => by omega⟩
    cases useD (rows[f + k]'(by omega)).1 (rows[f + k]'(by omega)).2.1
    · exact fSize_num _
    · exact fSize_num _
end
end Go.Proofs.Ytnccnmeecngopaa.Fw
