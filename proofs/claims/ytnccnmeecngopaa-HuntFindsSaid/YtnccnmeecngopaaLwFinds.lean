/- HuntFinds: whatever the samples and whatever part of them is asked, hunt.Find and the document's Find answer the same, the row stands, and they answer the same again when a sample is lost; it holds at every input. -/
import Derived.Test.YtnccnmeecngopaaLwFnF
set_option maxRecDepth 100000
set_option maxHeartbeats 4000000
set_option linter.unusedSimpArgs false
set_option linter.unusedVariables false
namespace Go.Proofs.Ytnccnmeecngopaa.Fw
open Go Go.RowKit
section
variable {K n : Nat}
theorem al_self {L n a : Nat} : den ⟨fnOf, specS, L⟩ (n+1) 18 [.flt a, .flt a] = some (.v (.bool true)) := by
  cases h : feq a a with
  | true => exact al18_0 h
  | false => rw [al18_1 h (by rw [h]; rfl), h]; rfl
theorem same_self {L n : Nat} {p q : Int} {sz : Nat} (h : feq sz sz = true) : den ⟨fnOf, specS, L⟩ (n+1) 21 [.agg [.int .i64 p, .flt sz, .int .i64 q], .agg [.int .i64 p, .flt sz, .int .i64 q]] = some (.v (.bool true)) := by
  rw [same21_0 beqSame h, beqSame]
theorem bb (l : Bool) : (!l == l) = false := by cases l <;> rfl
theorem unhurt22 {cs : List Cel} (hm : cs.length ≤ 4000000000000) (hL : cs.length ≤ K + 5) (h0 : 0 < cs.length) :
    den ⟨fnOf, specS, K+6⟩ (n+2) 22 [.lst 2 ((cs.map smpC).map celS), .lst 5 (cs.map celC)] = some (.v (.bool true)) := by
  have h15 := @sm15 (K+5) n cs hm hL h0
  have hl : ((cs.map smpC).map celS).length = cs.length := by rw [List.length_map, List.length_map]
  refine uh22_1 (call_den h15) bneSame (loop0 (uSt ((cs.map smpC).map celS) ((cs.map smpC).map celS)) ((cs.map smpC).map celS).length rfl (by rw [hl]; exact hL) (fun i hi => ?_) ?_ (by simp))
  · have hi' : i < (cs.map smpC).length := by rw [List.length_map] at hi; exact hi
    have hg := map_at (f := celS) hi'
    have := @uhr_1 (K+6) (n+1) _ _ i _ _ _ [10] (dLt hi) (el_at hg) (ix_at hi) (by show _ = _; rw [Nat.zero_add]; exact hg) (bb _) (call_den al_self) (call_den al_self)
    rw [wrapUp hi (by rw [hl]; omega)] at this
    exact this
  · exact @uhr_2 (K+6) (n+1) _ _ _ 0 0 false [10] dNlt
theorem law5n {cs : List Cel} {fr tt : Int} (hm : cs.length ≤ 4000000000000) (hL : cs.length ≤ K + 5) (h0 : 0 < cs.length) :
    den ⟨fnOf, specS, K+6⟩ (n+3) 5 [.lst 5 (cs.map celC), .int .i64 fr, .int .i64 tt] = some (.v (.bool true)) := by
  have h15 := @sm15 (K+5) (n+1) cs hm hL h0
  have h22 := @unhurt22 K n cs hm hL h0
  obtain ⟨rows, hr⟩ : ∃ rows, rows = cs.map smpC := ⟨_, rfl⟩
  have hrl : rows.length = cs.length := by rw [hr, List.length_map]
  rw [← hr] at h15 h22
  obtain ⟨R, ⟨p, sz, q, e, rfl, hf, hp⟩, h19, h20⟩ := @find_both (K+5) (n+1) rows fr tt (by omega)
  have hl : (rows.map celS).length = rows.length := List.length_map ..
  have h19' := h19
  have h20' := h20
  rw [← cutAll (els := rows.map celS)] at h19' h20' h22
  have h21 := @same_self (K+6) (n+1) p q sz hf
  by_cases he : e = 0
  · obtain ⟨hp0, hp1⟩ := hp he
    obtain ⟨k, rfl⟩ : ∃ k : Nat, p = k := ⟨p.toNat, by omega⟩
    have hk : k < rows.length := by omega
    have hset : (rows.map celS).set (0 + k) [.cpx rows[k].1 rows[k].2.1, .v (.bool true)] = (rows.set k (rows[k].1, rows[k].2.1, true)).map celS := by rw [Nat.zero_add, List.map_set]; rfl
    obtain ⟨R2, ⟨p2, sz2, q2, e2, rfl, hf2, _⟩, g19, g20⟩ := @find_both (K+5) (n+1) (rows.set k (rows[k].1, rows[k].2.1, true)) fr tt (by rw [List.length_set]; omega)
    have hcut : cutX ((rows.map celS).set (0 + k) [.cpx rows[k].1 rows[k].2.1, .v (.bool true)]) 0 (rows.map celS).length = (rows.set k (rows[k].1, rows[k].2.1, true)).map celS := by
      rw [hset]
      have : (rows.map celS).length = ((rows.set k (rows[k].1, rows[k].2.1, true)).map celS).length := by rw [List.length_map, List.length_map, List.length_set]
      rw [this]
      exact cutAll
    rw [← hcut] at g19 g20
    have := @lw5_4 (K+6) (n+2) sz sz2 k fr tt k q e p2 q2 e2 (rows.map celS) (cs.map celC) rows[k].1 rows[k].2.1 rows[k].2.2 (call_den h15) (call_den h19') leOut (call_den h20') (call_den h21) bneSame (call_den h22)
      (by subst he; rfl) (dF (by omega)) (dF (by rw [hl]; omega)) (ix_at (by rw [hl]; exact hk)) (by show _ = _; rw [Nat.zero_add]; exact map_at hk) (call_den g19) (by show _ ≤ _; rw [List.length_set]; omega) (call_den g20) (call_den (same_self hf2))
    rw [this, beqSame]
  · have hne : (e != 0) = true := by simpa using he
    have := @lw5_1 (K+6) (n+2) sz 0 0 fr tt p q e 0 0 0 (rows.map celS) (cs.map celC) 0 0 false (call_den h15) (call_den h19') leOut (call_den h20') (call_den h21) bneSame (call_den h22) hne
    rw [this, hne]
theorem nil36 {fr tt : Int} {H : Heap} {C : Caller} {L : Nat} (h1 : fr = 0) (h2 : tt = 0) : Con.holds ⟨fnOf, specS, L⟩ C (.any 0 [23] (MO.mk (some 36) (.slice (some 2) (.t 33) (some (.t 34)) (some (.t 35)) none) none []) [(33, .nils), (34, .int .i64 fr), (35, .int .i64 tt)] H .nils H) := by
  subst h1 h2
  rfl
theorem find_nil {fr tt : Int} : ∃ e : Int, e ≠ 0 ∧ den ⟨fnOf, specS, K+6⟩ (n+1) 19 [.nils, .int .i64 fr, .int .i64 tt] = some (.tup [.agg [.int .i64 0, .flt 0, .int .i64 0], .int .i64 e]) ∧ den ⟨fnOf, specS, K+6⟩ (n+1) 20 [.nils, .int .i64 fr, .int .i64 tt] = some (.tup [.agg [.int .i64 0, .flt 0, .int .i64 0], .int .i64 e]) := by
  by_cases c2 : fr < 0
  · exact ⟨1, by decide, @fdnil_0 (K+1) n fr tt (dT c2), @fenil_0 (K+1) n fr tt (dT c2)⟩
  by_cases c3 : fr > tt
  · exact ⟨1, by decide, @fdnil_1 (K+1) n fr tt (dF c2) (dT c3), @fenil_1 (K+1) n fr tt (dF c2) (dT c3)⟩
  by_cases c4 : tt > 0
  · exact ⟨1, by decide, @fdnil_2 (K+1) n fr tt (dF c2) (dF c3) (dT c4), @fenil_2 (K+1) n fr tt (dF c2) (dF c3) (dT c4)⟩
  · refine ⟨6, by decide, @fdnil_3 (K+1) n fr tt (dF c2) (dF c3) (dF c4) (nil36 (by omega) (by omega)), @fenil_3 (K+1) n fr tt (dF c2) (dF c3) (dF c4) ?_⟩
    exact loop0 (fun _ => ⟨[(0, .nils), (2, .int .i64 tt), (6, .ptr ⟨0,6,0⟩ [0] 0 0), (8, .int .i64 fr)], [(⟨0,6,0⟩, ⟨[0], [[.int .i64 0, .flt 0, .int .i64 0]], 3, true⟩)], 0⟩) 0 rfl (Nat.zero_le _) (fun i hi => absurd hi (by omega)) (@fenr_0 (K+1) n fr tt [22] (dF (by omega))) (by simp)
theorem law5e {X : AV} {fr tt : Int} (hX : X = .nils ∨ X = .lst 5 []) : den ⟨fnOf, specS, K+6⟩ (n+3) 5 [X, .int .i64 fr, .int .i64 tt] = some (.v (.bool true)) := by
  obtain ⟨e, he, h19, h20⟩ := @find_nil K (n+1) fr tt
  have hne : (e != 0) = true := by simpa using he
  have h21 := @same_self (K+6) (n+1) 0 0 0 (by kernel_rfl)
  rcases hX with rfl | rfl
  · rw [@lw5n_1 (K+6) (n+2) 0 fr tt 0 0 e (call_den (@sm15x_0 (K+1) (n+1))) (call_den h19) (call_den h20) (call_den h21) bneSame (call_den (@uh22x_0 (K+1) (n+1) (call_den (@sm15x_0 (K+1) n)))) hne, hne]
  · rw [@lw5m_1 (K+6) (n+2) 0 fr tt 0 0 e (call_den (@sm15nil (K+5) (n+1))) (call_den h19) (call_den h20) (call_den h21) bneSame (call_den (@uh22n_0 (K+1) (n+1) (call_den (@sm15nil (K+5) n)))) hne, hne]
end
/-- what the law is handed -/
theorem fits5 {avs : List AV} (h : FitsVs Try.prog 8 Try.f5.params.toList avs) : ∃ (a13 : AV) (x51 : Int) (x56 : Int), avs = [a13, AV.v (.int .i64 x51), AV.v (.int .i64 x56)] ∧ (a13 = AV.nils ∨ ∃ els : List (List AV), a13 = AV.lst 5 els ∧ els.length * 40 ≤ reachBytes ∧ ∀ e15 ∈ els, ∃ (x39 : Int) (x41 : Int) (x43 : Bool) (x44 : Nat) (x46 : Int), e15 = [AV.v (.int .i64 x39), AV.v (.int .i64 x41), AV.v (.bool x43), AV.flt (canon x44), AV.v (.int .u8 x46)] ∧ (Lit.int .i64 x39).wf = true ∧ (Lit.int .i64 x41).wf = true ∧ x44 < 2 ^ 64 ∧ (Lit.int .u8 x46).wf = true) ∧ (Lit.int .i64 x51).wf = true ∧ (Lit.int .i64 x56).wf = true := by
  replace h : FitsVs Try.prog 8 [39, 3, 3] avs := by rw [Try.params5] at h; exact h
  obtain ⟨a1, r2, rfl, h3, h⟩ := fitsVs_cons h
  obtain ⟨a4, r5, rfl, h6, h⟩ := fitsVs_cons h
  obtain ⟨a7, r8, rfl, h9, h⟩ := fitsVs_cons h
  obtain rfl := fitsVs_nil h
  have h10 := fitsV_slice Try.underlying39 h3
  obtain ⟨c11, h12⟩ : ∃ c, c = [a1] := ⟨_, rfl⟩
  rw [← h12] at h10
  obtain ⟨a13, rfl, w14⟩ : ∃ (a13 : AV), _ = [a13] ∧ (a13 = AV.nils ∨ ∃ els : List (List AV), a13 = AV.lst 5 els ∧ els.length * 40 ≤ reachBytes ∧ ∀ e15 ∈ els, ∃ (x39 : Int) (x41 : Int) (x43 : Bool) (x44 : Nat) (x46 : Int), e15 = [AV.v (.int .i64 x39), AV.v (.int .i64 x41), AV.v (.bool x43), AV.flt (canon x44), AV.v (.int .u8 x46)] ∧ (Lit.int .i64 x39).wf = true ∧ (Lit.int .i64 x41).wf = true ∧ x44 < 2 ^ 64 ∧ (Lit.int .u8 x46).wf = true) := by
    rcases fits_slice (n := 7) Try.underlying39 h10 with hh | ⟨els, hh, h1, h2⟩
    · exact ⟨_, hh, .inl rfl⟩
    · refine ⟨_, hh, .inr ⟨els, ?_, ?_, fun e15 he => ?_⟩⟩
      · rw [show Try.prog.cellsOf 33 = 5 by kernel_rfl]
      · rw [show Try.prog.bytesOf 33 = 40 by kernel_rfl] at h1; exact h1
      · have h16 := h2 _ he
        obtain ⟨p17, rfl, h18⟩ := fits_struct (n := 6) Try.underlying33 h16
        replace h18 : FitsEach (Fits Try.prog 6) [3, 3, 4, 31, 5] p17 := h18
        obtain ⟨p19, r20, rfl, h21, h22⟩ := fitsEach_cons h18
        obtain ⟨p23, r24, rfl, h25, h26⟩ := fitsEach_cons h22
        obtain ⟨p27, r28, rfl, h29, h30⟩ := fitsEach_cons h26
        obtain ⟨p31, r32, rfl, h33, h34⟩ := fitsEach_cons h30
        obtain ⟨p35, r36, rfl, h37, h38⟩ := fitsEach_cons h34
        obtain rfl := fitsEach_nil h38
        obtain ⟨x39, rfl, w40⟩ := fits_int (n := 5) Try.underlying3 h21
        obtain ⟨x41, rfl, w42⟩ := fits_int (n := 5) Try.underlying3 h25
        obtain ⟨x43, rfl⟩ := fits_bool (n := 5) Try.underlying4 h29
        obtain ⟨x44, rfl, w45⟩ := fits_flt (n := 5) Try.underlying31 h33
        obtain ⟨x46, rfl, w47⟩ := fits_int (n := 5) Try.underlying5 h37
        exact ⟨x39, x41, x43, x44, x46, rfl, w40, w42, w45, w47⟩
  obtain rfl := one_inj h12
  have h48 := fitsV_int Try.underlying3 h6
  obtain ⟨c49, h50⟩ : ∃ c, c = [a4] := ⟨_, rfl⟩
  rw [← h50] at h48
  obtain ⟨x51, rfl, w52⟩ := fits_int (n := 7) Try.underlying3 h48
  obtain rfl := one_inj h50
  have h53 := fitsV_int Try.underlying3 h9
  obtain ⟨c54, h55⟩ : ∃ c, c = [a7] := ⟨_, rfl⟩
  rw [← h55] at h53
  obtain ⟨x56, rfl, w57⟩ := fits_int (n := 7) Try.underlying3 h53
  obtain rfl := one_inj h55
  exact ⟨a13, x51, x56, rfl, w14, w52, w57⟩

theorem calls5 {avs : List AV} {W : World} {args : Array Value} (h : FitsVs Try.prog 8 Try.f5.params.toList avs) (hr : RelL (ρ0 fun _ => False) old0 W avs args.toList) :
    Calls Try.prog 5 args W fun e w' => e = .returned (.bool true) ∧ Below W.heap.size W w' := by
  obtain ⟨l, fr, tt, rfl, hx⟩ := fits5 h
  obtain ⟨hb, _⟩ := hx
  rcases hb with rfl | ⟨els, rfl, hl, he⟩
  · exact law (spec_s 6) (law5e (K := 0) (n := 0) (.inl rfl)) hr
  · obtain ⟨cs, rfl⟩ := all_map (f := celC) (fun e h => by obtain ⟨a, b, c, d, w, rfl, _⟩ := he e h; exact ⟨(a, b, c, canon d, w), rfl⟩)
    rw [List.length_map] at hl
    rcases Nat.eq_zero_or_pos cs.length with h0 | h0
    · obtain rfl := List.length_eq_zero_iff.1 h0
      exact law (spec_s 6) (law5e (K := 0) (n := 0) (.inr rfl)) hr
    · have hm : cs.length ≤ 4000000000000 := by
        have : reachBytes = 140737488351232 := by kernel_rfl
        omega
      exact law (spec_s _) (law5n (K := cs.length) (n := 0) hm (by omega) h0) hr
end Go.Proofs.Ytnccnmeecngopaa.Fw
namespace Go.Proofs.Ytnccnmeecngopaa
open Go.ChangeShapes Go.WideShapes Go.ChangeAt Go.RowKit Fw
theorem finds_lifted (os : Os) (started : os.Started) (H : Type) (enc : TypeId × Value → H) :
    ReturnsInHanded {} Try.checked os 5 .any (Rows.huntFindsSpec.pre6 enc Try.prog Try.f5 Rows.huntFindsRow.domain false) (Rows.huntFindsSpec.post enc Try.prog Try.f5 false true false false) := by
  refine law_lifted (C := Try.checked) (n := 8) (tb := 4) own started (by kernel_rfl) Try.func5
    (ChangeSpec.witness6 (enc := enc) (C := Try.checked) false ⟨#[], #[.slice none 0 0, .int .i64 0, .int .i64 0], []⟩ 8 (by kernel_rfl) (by kernel_rfl) (by kernel_rfl) (by kernel_rfl))
    laidOut (by kernel_rfl) (by kernel_rfl) rfl ?_ rfl Try.underlying4 fun _ _ _ h hr => calls5 h hr
  intro ds hd
  have hd : ds.length = 3 := hd
  rcases ds with _ | ⟨a, _ | ⟨b, _ | ⟨c, _ | ⟨d, r⟩⟩⟩⟩ <;> simp at hd
  rfl
theorem finds_holds : Rows.HuntFindsSaid :=
  OpenClaim.holds_of_wide 5 Try.f5 rfl rfl rfl rfl rfl rfl rfl ⟨rfl, rfl, rfl, rfl, rfl⟩ rfl rfl rfl rfl rfl (by kernel_rfl) Try.func5 (by kernel_rfl)
    (of_decide_eq_true (by kernel_rfl)) (by unfold Func.isWrapper; first | (rw [if_pos (by decide +kernel)]; kernel_rfl) | (rw [if_neg (by decide +kernel)]; exact ⟨rfl, rfl⟩))
    (fun os started H enc _ => finds_lifted os started H enc)
end Go.Proofs.Ytnccnmeecngopaa
