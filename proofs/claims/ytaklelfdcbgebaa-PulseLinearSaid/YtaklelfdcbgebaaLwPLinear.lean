/- PulseLinear: whatever the pulse and the two rows: the samples of the sum are the sums, those of a turned row are turned. Conditions: none. -/
import Derived.Test.YtaklelfdcbgebaaLwPLiB
set_option maxRecDepth 100000
set_option maxHeartbeats 4000000
set_option linter.unusedSimpArgs false
set_option linter.unusedVariables false
namespace Go.Proofs.Ytaklelfdcbgebaa.Fw
open Go Go.RowKit
/-- what the law is handed -/
theorem fits9 {avs : List AV} (h : FitsVs Try.prog 8 Try.f9.params.toList avs) : ∃ (x37 : Int) (x39 : Int) (a41 : AV) (x47 : Nat) (x49 : Int) (a54 : AV) (a63 : AV) (x72 : Int), avs = [AV.agg [AV.v (.int .i64 x37), AV.v (.int .i64 x39), a41, AV.flt (canon x47), AV.v (.int .i64 x49)], a54, a63, AV.v (.int .u8 x72)] ∧ (Lit.int .i64 x37).wf = true ∧ (Lit.int .i64 x39).wf = true ∧ (a41 = AV.nils ∨ ∃ els : List (List AV), a41 = AV.lst 1 els ∧ els.length * 8 ≤ reachBytes ∧ ∀ e43 ∈ els, ∃ (x45 : Int), e43 = [AV.v (.int .i64 x45)] ∧ (Lit.int .i64 x45).wf = true) ∧ x47 < 2 ^ 64 ∧ (Lit.int .i64 x49).wf = true ∧ (a54 = AV.nils ∨ ∃ els : List (List AV), a54 = AV.lst 1 els ∧ els.length * 8 ≤ reachBytes ∧ ∀ e56 ∈ els, ∃ (x58 : Int), e56 = [AV.v (.int .i64 x58)] ∧ (Lit.int .i64 x58).wf = true) ∧ (a63 = AV.nils ∨ ∃ els : List (List AV), a63 = AV.lst 1 els ∧ els.length * 8 ≤ reachBytes ∧ ∀ e65 ∈ els, ∃ (x67 : Int), e65 = [AV.v (.int .i64 x67)] ∧ (Lit.int .i64 x67).wf = true) ∧ (Lit.int .u8 x72).wf = true := by
  replace h : FitsVs Try.prog 8 [25, 22, 22, 5] avs := by rw [Try.params9] at h; exact h
  obtain ⟨a1, r2, rfl, h3, h⟩ := fitsVs_cons h
  obtain ⟨a4, r5, rfl, h6, h⟩ := fitsVs_cons h
  obtain ⟨a7, r8, rfl, h9, h⟩ := fitsVs_cons h
  obtain ⟨a10, r11, rfl, h12, h⟩ := fitsVs_cons h
  obtain rfl := fitsVs_nil h
  obtain ⟨c13, rfl, h14⟩ := fitsV_struct Try.underlying25 h3
  obtain ⟨p15, rfl, h16⟩ := fits_struct (n := 7) Try.underlying25 h14
  replace h16 : FitsEach (Fits Try.prog 7) [3, 3, 22, 23, 3] p15 := h16
  obtain ⟨p17, r18, rfl, h19, h20⟩ := fitsEach_cons h16
  obtain ⟨p21, r22, rfl, h23, h24⟩ := fitsEach_cons h20
  obtain ⟨p25, r26, rfl, h27, h28⟩ := fitsEach_cons h24
  obtain ⟨p29, r30, rfl, h31, h32⟩ := fitsEach_cons h28
  obtain ⟨p33, r34, rfl, h35, h36⟩ := fitsEach_cons h32
  obtain rfl := fitsEach_nil h36
  obtain ⟨x37, rfl, w38⟩ := fits_int (n := 6) Try.underlying3 h19
  obtain ⟨x39, rfl, w40⟩ := fits_int (n := 6) Try.underlying3 h23
  obtain ⟨a41, rfl, w42⟩ : ∃ (a41 : AV), _ = [a41] ∧ (a41 = AV.nils ∨ ∃ els : List (List AV), a41 = AV.lst 1 els ∧ els.length * 8 ≤ reachBytes ∧ ∀ e43 ∈ els, ∃ (x45 : Int), e43 = [AV.v (.int .i64 x45)] ∧ (Lit.int .i64 x45).wf = true) := by
    rcases fits_slice (n := 6) Try.underlying22 h27 with hh | ⟨els, hh, h1, h2⟩
    · exact ⟨_, hh, .inl rfl⟩
    · refine ⟨_, hh, .inr ⟨els, ?_, ?_, fun e43 he => ?_⟩⟩
      · rw [show Try.prog.cellsOf 3 = 1 by kernel_rfl]
      · rw [show Try.prog.bytesOf 3 = 8 by kernel_rfl] at h1; exact h1
      · have h44 := h2 _ he
        obtain ⟨x45, rfl, w46⟩ := fits_int (n := 5) Try.underlying3 h44
        exact ⟨x45, rfl, w46⟩
  obtain ⟨x47, rfl, w48⟩ := fits_flt (n := 6) Try.underlying23 h31
  obtain ⟨x49, rfl, w50⟩ := fits_int (n := 6) Try.underlying3 h35
  have h51 := fitsV_slice Try.underlying22 h6
  obtain ⟨c52, h53⟩ : ∃ c, c = [a4] := ⟨_, rfl⟩
  rw [← h53] at h51
  obtain ⟨a54, rfl, w55⟩ : ∃ (a54 : AV), _ = [a54] ∧ (a54 = AV.nils ∨ ∃ els : List (List AV), a54 = AV.lst 1 els ∧ els.length * 8 ≤ reachBytes ∧ ∀ e56 ∈ els, ∃ (x58 : Int), e56 = [AV.v (.int .i64 x58)] ∧ (Lit.int .i64 x58).wf = true) := by
    rcases fits_slice (n := 7) Try.underlying22 h51 with hh | ⟨els, hh, h1, h2⟩
    · exact ⟨_, hh, .inl rfl⟩
    · refine ⟨_, hh, .inr ⟨els, ?_, ?_, fun e56 he => ?_⟩⟩
      · rw [show Try.prog.cellsOf 3 = 1 by kernel_rfl]
      · rw [show Try.prog.bytesOf 3 = 8 by kernel_rfl] at h1; exact h1
      · have h57 := h2 _ he
        obtain ⟨x58, rfl, w59⟩ := fits_int (n := 6) Try.underlying3 h57
        exact ⟨x58, rfl, w59⟩
  obtain rfl := one_inj h53
  have h60 := fitsV_slice Try.underlying22 h9
  obtain ⟨c61, h62⟩ : ∃ c, c = [a7] := ⟨_, rfl⟩
  rw [← h62] at h60
  obtain ⟨a63, rfl, w64⟩ : ∃ (a63 : AV), _ = [a63] ∧ (a63 = AV.nils ∨ ∃ els : List (List AV), a63 = AV.lst 1 els ∧ els.length * 8 ≤ reachBytes ∧ ∀ e65 ∈ els, ∃ (x67 : Int), e65 = [AV.v (.int .i64 x67)] ∧ (Lit.int .i64 x67).wf = true) := by
    rcases fits_slice (n := 7) Try.underlying22 h60 with hh | ⟨els, hh, h1, h2⟩
    · exact ⟨_, hh, .inl rfl⟩
    · refine ⟨_, hh, .inr ⟨els, ?_, ?_, fun e65 he => ?_⟩⟩
      · rw [show Try.prog.cellsOf 3 = 1 by kernel_rfl]
      · rw [show Try.prog.bytesOf 3 = 8 by kernel_rfl] at h1; exact h1
      · have h66 := h2 _ he
        obtain ⟨x67, rfl, w68⟩ := fits_int (n := 6) Try.underlying3 h66
        exact ⟨x67, rfl, w68⟩
  obtain rfl := one_inj h62
  have h69 := fitsV_int Try.underlying5 h12
  obtain ⟨c70, h71⟩ : ∃ c, c = [a10] := ⟨_, rfl⟩
  rw [← h71] at h69
  obtain ⟨x72, rfl, w73⟩ := fits_int (n := 7) Try.underlying5 h69
  obtain rfl := one_inj h71
  exact ⟨x37, x39, a41, x47, x49, a54, a63, x72, rfl, w38, w40, w42, w48, w50, w55, w64, w73⟩
theorem u8_wf7 {o : Int} (h : (Lit.int .u8 o).wf = true) : 0 ≤ o ∧ o ≤ 255 := by
  have h : (decide (IntKind.min .u8 ≤ o) && decide (o ≤ IntKind.max .u8)) = true := h
  rw [Bool.and_eq_true] at h
  exact ⟨of_decide_eq_true h.1, of_decide_eq_true h.2⟩
theorem calls9 {avs : List AV} {W : World} {args : Array Value} (h : FitsVs Try.prog 8 Try.f9.params.toList avs) (hr : RelL (ρ0 fun _ => False) old0 W avs args.toList) :
    Calls Try.prog 9 args W fun e w' => e = .returned (.bool true) ∧ Below W.heap.size W w' := by
  obtain ⟨rate, fore, tp, odd, att, pp, qq, m, rfl, _, _, hb, _, _, hc, hd, hm⟩ := fits9 h
  obtain ⟨xs, w1, l1⟩ := wi_of (f := celI) (z := 1) (B := 8) (hb.imp id fun ⟨els, e1, e2, e3⟩ => ⟨els, e1, e2, fun e he => by
    obtain ⟨x, rfl, _⟩ := e3 e he
    exact ⟨x, rfl⟩⟩)
  obtain ⟨ps, w2, l2⟩ := wi_of (f := celI) (z := 1) (B := 8) (hc.imp id fun ⟨els, e1, e2, e3⟩ => ⟨els, e1, e2, fun e he => by
    obtain ⟨x, rfl, _⟩ := e3 e he
    exact ⟨x, rfl⟩⟩)
  obtain ⟨qs, w3, l3⟩ := wi_of (f := celI) (z := 1) (B := 8) (hd.imp id fun ⟨els, e1, e2, e3⟩ => ⟨els, e1, e2, fun e he => by
    obtain ⟨x, rfl, _⟩ := e3 e he
    exact ⟨x, rfl⟩⟩)
  have hw : All2 WiA [AV.agg [AV.v (.int .i64 rate), AV.v (.int .i64 fore), tp, AV.flt (canon odd), AV.v (.int .i64 att)], pp, qq, AV.v (.int .u8 m)] [AV.agg [AV.v (.int .i64 rate), AV.v (.int .i64 fore), .lst 1 (xs.map celI), AV.flt (canon odd), AV.v (.int .i64 att)], .lst 1 (ps.map celI), .lst 1 (qs.map celI), AV.v (.int .u8 m)] :=
    ⟨.inl ⟨_, _, rfl, rfl, ⟨.inl rfl, .inl rfl, w1, .inl rfl, .inl rfl, trivial⟩⟩, .inr w2, .inr w3, .refl _, trivial⟩
  have hb : reachBytes = 140737488351232 := by kernel_rfl
  exact law (spec_bL (70000 + 1)) (@law_linear 70000 0 rate fore att m xs ps qs (canon odd) (by omega) (Nat.le_refl _) (u8_wf7 hm)) (relL_wi hw hr)
end Go.Proofs.Ytaklelfdcbgebaa.Fw
namespace Go.Proofs.Ytaklelfdcbgebaa
open Go.ChangeShapes Go.WideShapes Go.ChangeAt Go.RowKit Fw
theorem pulseLinear_lifted (os : Os) (started : os.Started) (H : Type) (enc : TypeId × Value → H) :
    ReturnsInHanded {} Try.checked os 9 .any (Rows.pulseLinearSpec.pre6 enc Try.prog Try.f9 Rows.pulseLinearRow.domain false) (Rows.pulseLinearSpec.post enc Try.prog Try.f9 false true false false) := by
  refine law_lifted (C := Try.checked) (n := 8) (tb := 4) own started (by kernel_rfl) Try.func9
    (ChangeSpec.witness6 (enc := enc) (C := Try.checked) false ⟨#[], #[.agg #[.int .i64 0, .int .i64 0, .slice none 0 0, .float .f64 0, .int .i64 0], .slice none 0 0, .slice none 0 0, .int .u8 0], []⟩ 8 (by kernel_rfl) (by kernel_rfl) (by kernel_rfl) (by kernel_rfl))
    laidOut (by kernel_rfl) (by kernel_rfl) rfl ?_ rfl Try.underlying4 fun _ _ _ h hr => calls9 h hr
  intro ds hd
  have hd : ds.length = 4 := hd
  rcases ds with _ | ⟨a, _ | ⟨b, _ | ⟨c, _ | ⟨d, _ | ⟨z, r⟩⟩⟩⟩⟩ <;> simp at hd
  rfl
theorem pulseLinear_holds : Rows.PulseLinearSaid :=
  OpenClaim.holds_of_wide 9 Try.f9 rfl rfl rfl rfl rfl rfl rfl ⟨rfl, rfl, rfl, rfl, rfl⟩ rfl rfl rfl rfl rfl (by kernel_rfl) Try.func9 (by kernel_rfl)
    (of_decide_eq_true (by kernel_rfl)) (by unfold Func.isWrapper; first | (rw [if_pos (by decide +kernel)]; kernel_rfl) | (rw [if_neg (by decide +kernel)]; exact ⟨rfl, rfl⟩))
    (fun os started H enc _ => pulseLinear_lifted os started H enc)
end Go.Proofs.Ytaklelfdcbgebaa
