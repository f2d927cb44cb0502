/- hunt.Find: nothing where all is quiet; the first loud sample. Numbers on the grid: when they are loud. -/
import Derived.Test.YtnccnmeecngopaaLwHfA
import Derived.Test.YtnccnmeecngopaaFwLi
set_option maxRecDepth 100000
set_option maxHeartbeats 4000000
set_option exponentiation.threshold 4000
set_option linter.unusedSimpArgs false
set_option linter.unusedVariables false
namespace Go.Proofs.Ytnccnmeecngopaa.Fw
open Go Go.RowKit
def loud (a b : Nat) (lost : Bool) : Bool := !lost && (fge (absF a) 4625196817309499392 || fge (absF b) 4625196817309499392)
def fSize (m : Nat) : Nat := bif fge (absF m) 4636455816377925632 then 4607182418800017408 else bif fge (absF m) 4631952216750555136 then 4602678819172646912 else 4598175219545276416
def fQ (u neg : Bool) : Int := match u, neg with | false, false => 0 | false, true => 2 | true, false => 1 | true, true => 3
def outcome (at_ : Int) (a b : Nat) (u : Bool) : AV := .tup [.agg [.int .i64 at_, .flt (bif u then fSize b else fSize a), .int .i64 (fQ u (bif u then flt b 0 else flt a 0))], .int .i64 0]
def useD (a b : Nat) : Bool := fgt (absF b) (absF a) || !feq a a
section
variable {L n : Nat}
theorem fd_eq {fr : Int} {els : List (List AV)} {i : Nat} {a b : Nat} {lost : Bool} {π : List Nat} (hi : i < els.length) :
    fd L n fr els i a b lost π = bif loud a b lost then .out (outcome (IntKind.wrap .i64 (fr + i)) a b (useD a b)) else .go .nrm ⟨[(1, .int .i64 fr), (6, .ptr ⟨0,6,0⟩ [0] 0 0), (36, .lst 2 els), (37, .int .i64 els.length), (38, .int .i64 (IntKind.wrap .i64 ((i : Int) + 1)))], [(⟨0,6,0⟩, ⟨[0], [[.int .i64 0, .flt 0, .int .i64 0]], 3, true⟩)], 0⟩ := by
  have hlt : decide ((i : Int) < (els.length : Int)) = true := by simpa using hi
  unfold fd
  rw [if_pos hlt]
  unfold loud outcome useD fSize
  generalize fge (absF a) 4625196817309499392 = x1
  generalize fge (absF b) 4625196817309499392 = x2
  generalize fge (absF a) 4636455816377925632 = x3
  generalize fge (absF b) 4636455816377925632 = x4
  generalize fge (absF a) 4631952216750555136 = x5
  generalize fge (absF b) 4631952216750555136 = x6
  generalize fgt (absF b) (absF a) = x7
  generalize feq a a = x8
  generalize flt a 0 = x9
  generalize flt b 0 = x10
  exact by (cases lost <;> first | rfl | (cases x1 <;> first | rfl | (cases x2 <;> first | rfl | (cases x7 <;> first | rfl | (cases x8 <;> first | rfl | (cases x9 <;> first | rfl | (cases x10 <;> first | rfl | (cases x3 <;> first | rfl | (cases x4 <;> first | rfl | (cases x5 <;> first | rfl | (cases x6 <;> first | rfl | rfl)))))))))))
end
abbrev Smp := Nat × Nat × Bool
def celS (s : Smp) : List AV := [.cpx s.1 s.2.1, .v (.bool s.2.2)]
def quietS (s : Smp) : Bool := !loud s.1 s.2.1 s.2.2
section
variable {L n : Nat}
theorem fd_go {fr : Int} {sub : List Smp} {i : Nat} {π : List Nat} (hm : sub.length ≤ 65536) (hi : i < sub.length) (hq : quietS sub[i] = true) :
    seeZ 0 [1, 6, 36, 37, 38] m19.res (bodyOf ⟨fnOf, specS, L⟩ (runF ⟨fnOf, specS, L⟩ n) 0 m19b0 (i :: π) (FdSt fr (sub.map celS) i)) = some (.go .nrm (FdSt fr (sub.map celS) (i + 1))) := by
  have hi' : i < (sub.map celS).length := by rw [List.length_map]; exact hi
  have he := el_at (P := ⟨fnOf, specS, L⟩) (C := runF ⟨fnOf, specS, L⟩ n) (map_at (f := celS) hi)
  have := @fd_ok L n fr (sub.map celS) i sub[i].1 sub[i].2.1 sub[i].2.2 π (fun _ => he)
  rw [fd_eq hi', wrapUp hi (by omega)] at this
  have hl : loud sub[i].1 sub[i].2.1 sub[i].2.2 = false := by simpa [quietS] using hq
  rw [hl] at this
  exact this
theorem fd_out {fr : Int} {sub : List Smp} {i : Nat} {π : List Nat} (hi : i < sub.length) (hq : quietS sub[i] = false) :
    seeZ 0 [1, 6, 36, 37, 38] m19.res (bodyOf ⟨fnOf, specS, L⟩ (runF ⟨fnOf, specS, L⟩ n) 0 m19b0 (i :: π) (FdSt fr (sub.map celS) i)) = some (.out (outcome (IntKind.wrap .i64 (fr + i)) sub[i].1 sub[i].2.1 (useD sub[i].1 sub[i].2.1))) := by
  have hi' : i < (sub.map celS).length := by rw [List.length_map]; exact hi
  have he := el_at (P := ⟨fnOf, specS, L⟩) (C := runF ⟨fnOf, specS, L⟩ n) (map_at (f := celS) hi)
  have := @fd_ok L n fr (sub.map celS) i sub[i].1 sub[i].2.1 sub[i].2.2 π (fun _ => he)
  rw [fd_eq hi'] at this
  have hl : loud sub[i].1 sub[i].2.1 sub[i].2.2 = true := by simpa [quietS] using hq
  rw [hl] at this
  exact this
theorem slc36 {els : List (List AV)} {fr tt : Nat} {C : Caller} {H : Heap} (h1 : fr ≤ tt) (h2 : tt ≤ els.length) :
    Con.holds ⟨fnOf, specS, L⟩ C (.any 0 [23] (MO.mk (some 36) (.slice (some 2) (.t 33) (some (.t 34)) (some (.t 35)) none) none []) [(33, .lst 2 els), (34, .int .i64 fr), (35, .int .i64 tt)] H (.lst 2 ((els.take tt).drop fr)) H) := by
  have h3 : (tt : Int) ≤ (els.length : Int) := by omega
  have h4 : (fr : Int) ≤ (tt : Int) := by omega
  simp [Con.holds, stepOp, opSem, Opd.ev, Env.get, sliceSem, optEv, bnd, h2, h1]
end
section
variable {L n : Nat}
theorem find_none {rows : List Smp} {f t : Nat} (hL : rows.length ≤ L) (hm : rows.length ≤ 65536) (hft : f ≤ t) (htl : t ≤ rows.length) (hq : ∀ i (hi : i < rows.length), f ≤ i → i < t → quietS rows[i] = true) :
    den ⟨fnOf, specS, L+1⟩ (n+1) 19 [.lst 2 (rows.map celS), .int .i64 f, .int .i64 t] = some (.tup [.agg [.int .i64 0, .flt 0, .int .i64 0], .int .i64 6]) := by
  have hl : (rows.map celS).length = rows.length := List.length_map ..
  obtain ⟨sub, hsub⟩ : ∃ sub, sub = (rows.take t).drop f := ⟨_, rfl⟩
  have hss : ((rows.map celS).take t).drop f = sub.map celS := by rw [hsub, List.map_drop, List.map_take]
  have hsl : sub.length = t - f := by rw [hsub, List.length_drop, List.length_take]; omega
  have hat : ∀ i (hi : i < sub.length), sub[i] = rows[f + i]'(by omega) := fun i hi => by simp [hsub]
  have h36 := slc36 (L := L+1) (els := rows.map celS) (fr := f) (tt := t) (C := runF ⟨fnOf, specS, L+1⟩ n) (H := [(⟨0,6,0⟩, ⟨[0], [[.int .i64 0, .flt 0, .int .i64 0]], 3, true⟩)]) hft (by rw [hl]; exact htl)
  rw [hss] at h36
  have hd : Con.holds ⟨fnOf, specS, L+1⟩ (runF ⟨fnOf, specS, L+1⟩ n) (.loop 0 [1, 6, 36, 37, 38] m19b0 [26] (FdSt f (sub.map celS) 0) (.exit 0) (FdEx f (sub.map celS))) := by
    refine loopX (res := m19.res) (FdSt f (sub.map celS)) (sub.map celS).length rfl (by rw [List.length_map]; omega) (fun i hi => ?_) ?_ (by simp)
    · have hi' : i < sub.length := by rw [List.length_map] at hi; exact hi
      exact fd_go (by omega) hi' (by rw [hat i hi']; exact hq _ _ (by omega) (by omega))
    · exact @fd_38 (L+1) n f (sub.map celS) (sub.map celS).length 0 0 false [26] dNlt
  exact fdn_4 (dF (by rw [hl]; omega)) (dF (by omega)) (dF (by omega)) (dF (by rw [hl]; omega)) h36 hd
theorem find_some {rows : List Smp} {f t j : Nat} (hL : rows.length ≤ L) (hm : rows.length ≤ 65536) (htl : t ≤ rows.length) (hfj : f ≤ j) (hj : j < t) (hq : ∀ i (hi : i < rows.length), f ≤ i → i < j → quietS rows[i] = true)
    (hb : quietS (rows[j]'(by omega)) = false) :
    den ⟨fnOf, specS, L+1⟩ (n+1) 19 [.lst 2 (rows.map celS), .int .i64 f, .int .i64 t] = some (outcome j (rows[j]'(by omega)).1 (rows[j]'(by omega)).2.1 (useD (rows[j]'(by omega)).1 (rows[j]'(by omega)).2.1)) := by
  have hl : (rows.map celS).length = rows.length := List.length_map ..
  obtain ⟨k, rfl⟩ : ∃ k, j = f + k := ⟨j - f, by omega⟩
  obtain ⟨sub, hsub⟩ : ∃ sub, sub = (rows.take t).drop f := ⟨_, rfl⟩
  have hss : ((rows.map celS).take t).drop f = sub.map celS := by rw [hsub, List.map_drop, List.map_take]
  have hsl : sub.length = t - f := by rw [hsub, List.length_drop, List.length_take]; omega
  have hat : ∀ i (hi : i < sub.length), sub[i] = rows[f + i]'(by omega) := fun i hi => by simp [hsub]
  have h36 := slc36 (L := L+1) (els := rows.map celS) (fr := f) (tt := t) (C := runF ⟨fnOf, specS, L+1⟩ n) (H := [(⟨0,6,0⟩, ⟨[0], [[.int .i64 0, .flt 0, .int .i64 0]], 3, true⟩)]) (by omega) (by rw [hl]; exact htl)
  rw [hss] at h36
  have hf : IntKind.wrap .i64 ((f : Int) + (k : Int)) = ((f + k : Nat) : Int) := by rw [wrap_id (by omega)]; omega
  have hk : k < sub.length := by omega
  obtain ⟨s1, hd, ho1⟩ := loopZ (P := ⟨fnOf, specS, L+1⟩) (C := runF ⟨fnOf, specS, L+1⟩ n) (π := [26]) (FdSt f (sub.map celS)) k rfl (by omega) (fun i hi => fd_go (by omega) (by omega) (by rw [hat i (by omega)]; exact hq _ _ (by omega) (by omega))) (fd_out hk (by rw [hat k hk]; exact hb))
  rw [hf, hat k hk] at ho1
  exact fdt_4 (dF (by rw [hl]; omega)) (dF (by omega)) (dF (by omega)) (dF (by rw [hl]; omega)) h36 hd ho1
end
/-- on the grid: in parts of 2^-12 -/
theorem grid_nan {m : Int} {x : Nat} (h : grid m x) : isNaN x = false := fin_num h.1
theorem grid_rk {m : Int} {x : Nat} (h : grid m x) : rk x = m * 2 ^ 1062 := by rw [rk_fin h.1, h.2]
theorem p1062 : (0 : Int) < 2 ^ 1062 := Int.pow_pos (by decide)
theorem rk16 : rk 4625196817309499392 = 65536 * 2 ^ 1062 := by kernel_rfl
theorem le_unit {a b : Int} : a * 2 ^ 1062 ≤ b * 2 ^ 1062 ↔ a ≤ b := Int.mul_le_mul_right p1062
theorem lt_unit {a b : Int} : a * 2 ^ 1062 < b * 2 ^ 1062 ↔ a < b := Int.mul_lt_mul_right p1062
theorem abs_unit (m : Int) : ((m * 2 ^ 1062).natAbs : Int) = (m.natAbs : Int) * 2 ^ 1062 := by
  rw [Int.natAbs_mul]
  have := p1062
  generalize (2 : Int) ^ 1062 = B at *
  rw [Int.natCast_mul]
  congr 1
  omega
theorem loud_grid {m n : Int} {a b : Nat} {lost : Bool} (ha : grid m a) (hb : grid n b) : loud a b lost = (!lost && (decide (65536 ≤ m.natAbs) || decide (65536 ≤ n.natAbs))) := by
  have h16 : isNaN 4625196817309499392 = false := by decide
  unfold loud
  rw [fge_rk, fge_rk, (absF_rk a).1, (absF_rk a).2, (absF_rk b).1, (absF_rk b).2, h16, grid_nan ha, grid_nan hb, grid_rk ha, grid_rk hb, rk16, abs_unit, abs_unit]
  simp only [le_unit, Bool.not_false, Bool.true_and]
  congr 2 <;> exact decide_eq_decide.2 (by omega)
theorem useD_grid {m n : Int} {a b : Nat} (ha : grid m a) (hb : grid n b) : useD a b = decide (m.natAbs < n.natAbs) := by
  unfold useD
  rw [fgt_rk, feq_rk, (absF_rk a).1, (absF_rk a).2, (absF_rk b).1, (absF_rk b).2, grid_nan ha, grid_nan hb, grid_rk ha, grid_rk hb, abs_unit, abs_unit]
  simp [lt_unit]
theorem neg_grid {m : Int} {a : Nat} (ha : grid m a) : flt a 0 = decide (m < 0) := by
  have h0 : isNaN 0 = false := by decide
  have hz : rk 0 = 0 * 2 ^ 1062 := by kernel_rfl
  rw [flt_rk, grid_nan ha, h0, grid_rk ha, hz]
  simp only [Bool.not_false, Bool.true_and]
  exact decide_eq_decide.2 lt_unit
def celI (x : Int) : List AV := [.int .i64 x]
theorem getD_at {xs : List Int} {i : Nat} (h : i < xs.length) : (xs.map celI)[i]? = some [.int .i64 (xs.getD i 0)] := by
  rw [map_at (f := celI) h, List.getD_eq_getElem?_getD, List.getElem?_eq_getElem h]; rfl
end Go.Proofs.Ytnccnmeecngopaa.Fw
