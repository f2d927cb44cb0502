/- PulseShapes: whatever the pulse and the numbers, pulse.Shape answers as the document does; the answer is new memory, what is handed in and the room behind it stand; asked again with other content it answers anew. Conditions: none. -/
import Derived.Test.YtaklelfdcbgebaaLwSpM
set_option maxRecDepth 100000
set_option maxHeartbeats 4000000
set_option linter.unusedSimpArgs false
set_option linter.unusedVariables false
namespace Go.Proofs.Ytaklelfdcbgebaa.Fw
open Go Go.RowKit
/-- what the law is handed -/
theorem fits4 {avs : List AV} (h : FitsVs Try.prog 8 Try.f4.params.toList avs) : ∃ (x40 : Int) (x42 : Int) (a44 : AV) (x50 : Nat) (x52 : Int) (a57 : AV) (x66 : Nat) (x71 : Nat) (x76 : Int), avs = [AV.agg [AV.v (.int .i64 x40), AV.v (.int .i64 x42), a44, AV.flt (canon x50), AV.v (.int .i64 x52)], a57, AV.flt (canon x66), AV.flt (canon x71), AV.v (.int .i64 x76)] ∧ (Lit.int .i64 x40).wf = true ∧ (Lit.int .i64 x42).wf = true ∧ (a44 = AV.nils ∨ ∃ els : List (List AV), a44 = AV.lst 1 els ∧ els.length * 8 ≤ reachBytes ∧ ∀ e46 ∈ els, ∃ (x48 : Int), e46 = [AV.v (.int .i64 x48)] ∧ (Lit.int .i64 x48).wf = true) ∧ x50 < 2 ^ 64 ∧ (Lit.int .i64 x52).wf = true ∧ (a57 = AV.nils ∨ ∃ els : List (List AV), a57 = AV.lst 1 els ∧ els.length * 8 ≤ reachBytes ∧ ∀ e59 ∈ els, ∃ (x61 : Int), e59 = [AV.v (.int .i64 x61)] ∧ (Lit.int .i64 x61).wf = true) ∧ x66 < 2 ^ 64 ∧ x71 < 2 ^ 64 ∧ (Lit.int .i64 x76).wf = true := by
  replace h : FitsVs Try.prog 8 [25, 22, 23, 23, 3] avs := by rw [Try.params4] at h; exact h
  obtain ⟨a1, r2, rfl, h3, h⟩ := fitsVs_cons h
  obtain ⟨a4, r5, rfl, h6, h⟩ := fitsVs_cons h
  obtain ⟨a7, r8, rfl, h9, h⟩ := fitsVs_cons h
  obtain ⟨a10, r11, rfl, h12, h⟩ := fitsVs_cons h
  obtain ⟨a13, r14, rfl, h15, h⟩ := fitsVs_cons h
  obtain rfl := fitsVs_nil h
  obtain ⟨c16, rfl, h17⟩ := fitsV_struct Try.underlying25 h3
  obtain ⟨p18, rfl, h19⟩ := fits_struct (n := 7) Try.underlying25 h17
  replace h19 : FitsEach (Fits Try.prog 7) [3, 3, 22, 23, 3] p18 := h19
  obtain ⟨p20, r21, rfl, h22, h23⟩ := fitsEach_cons h19
  obtain ⟨p24, r25, rfl, h26, h27⟩ := fitsEach_cons h23
  obtain ⟨p28, r29, rfl, h30, h31⟩ := fitsEach_cons h27
  obtain ⟨p32, r33, rfl, h34, h35⟩ := fitsEach_cons h31
  obtain ⟨p36, r37, rfl, h38, h39⟩ := fitsEach_cons h35
  obtain rfl := fitsEach_nil h39
  obtain ⟨x40, rfl, w41⟩ := fits_int (n := 6) Try.underlying3 h22
  obtain ⟨x42, rfl, w43⟩ := fits_int (n := 6) Try.underlying3 h26
  obtain ⟨a44, rfl, w45⟩ : ∃ (a44 : AV), _ = [a44] ∧ (a44 = AV.nils ∨ ∃ els : List (List AV), a44 = AV.lst 1 els ∧ els.length * 8 ≤ reachBytes ∧ ∀ e46 ∈ els, ∃ (x48 : Int), e46 = [AV.v (.int .i64 x48)] ∧ (Lit.int .i64 x48).wf = true) := by
    rcases fits_slice (n := 6) Try.underlying22 h30 with hh | ⟨els, hh, h1, h2⟩
    · exact ⟨_, hh, .inl rfl⟩
    · refine ⟨_, hh, .inr ⟨els, ?_, ?_, fun e46 he => ?_⟩⟩
      · rw [show Try.prog.cellsOf 3 = 1 by kernel_rfl]
      · rw [show Try.prog.bytesOf 3 = 8 by kernel_rfl] at h1; exact h1
      · have h47 := h2 _ he
        obtain ⟨x48, rfl, w49⟩ := fits_int (n := 5) Try.underlying3 h47
        exact ⟨x48, rfl, w49⟩
  obtain ⟨x50, rfl, w51⟩ := fits_flt (n := 6) Try.underlying23 h34
  obtain ⟨x52, rfl, w53⟩ := fits_int (n := 6) Try.underlying3 h38
  have h54 := fitsV_slice Try.underlying22 h6
  obtain ⟨c55, h56⟩ : ∃ c, c = [a4] := ⟨_, rfl⟩
  rw [← h56] at h54
  obtain ⟨a57, rfl, w58⟩ : ∃ (a57 : AV), _ = [a57] ∧ (a57 = AV.nils ∨ ∃ els : List (List AV), a57 = AV.lst 1 els ∧ els.length * 8 ≤ reachBytes ∧ ∀ e59 ∈ els, ∃ (x61 : Int), e59 = [AV.v (.int .i64 x61)] ∧ (Lit.int .i64 x61).wf = true) := by
    rcases fits_slice (n := 7) Try.underlying22 h54 with hh | ⟨els, hh, h1, h2⟩
    · exact ⟨_, hh, .inl rfl⟩
    · refine ⟨_, hh, .inr ⟨els, ?_, ?_, fun e59 he => ?_⟩⟩
      · rw [show Try.prog.cellsOf 3 = 1 by kernel_rfl]
      · rw [show Try.prog.bytesOf 3 = 8 by kernel_rfl] at h1; exact h1
      · have h60 := h2 _ he
        obtain ⟨x61, rfl, w62⟩ := fits_int (n := 6) Try.underlying3 h60
        exact ⟨x61, rfl, w62⟩
  obtain rfl := one_inj h56
  have h63 := fitsV_flt Try.underlying23 h9
  obtain ⟨c64, h65⟩ : ∃ c, c = [a7] := ⟨_, rfl⟩
  rw [← h65] at h63
  obtain ⟨x66, rfl, w67⟩ := fits_flt (n := 7) Try.underlying23 h63
  obtain rfl := one_inj h65
  have h68 := fitsV_flt Try.underlying23 h12
  obtain ⟨c69, h70⟩ : ∃ c, c = [a10] := ⟨_, rfl⟩
  rw [← h70] at h68
  obtain ⟨x71, rfl, w72⟩ := fits_flt (n := 7) Try.underlying23 h68
  obtain rfl := one_inj h70
  have h73 := fitsV_int Try.underlying3 h15
  obtain ⟨c74, h75⟩ : ∃ c, c = [a13] := ⟨_, rfl⟩
  rw [← h75] at h73
  obtain ⟨x76, rfl, w77⟩ := fits_int (n := 7) Try.underlying3 h73
  obtain rfl := one_inj h75
  exact ⟨x40, x42, a44, x50, x52, a57, x66, x71, x76, rfl, w41, w43, w45, w51, w53, w58, w67, w72, w77⟩
theorem room8 {m : Nat} (h : m * 8 ≤ reachBytes) : m ≤ 17592186043904 := by
  have : reachBytes = 140737488351232 := by kernel_rfl
  omega
/-- a list of numbers, nil or not -/
theorem wi_list {a : AV} (h : a = AV.nils ∨ ∃ els : List (List AV), a = AV.lst 1 els ∧ els.length * 8 ≤ reachBytes ∧ ∀ e ∈ els, ∃ (x : Int), e = [AV.v (.int .i64 x)] ∧ (Lit.int .i64 x).wf = true) :
    ∃ xs : List Int, Wi1 a (.lst 1 (xs.map celI)) ∧ xs.length * 8 ≤ reachBytes := by
  rcases h with rfl | ⟨els, rfl, hl, he⟩
  · exact ⟨[], .inr ⟨rfl, 1, rfl⟩, by rw [List.length_nil, Nat.zero_mul]; exact Nat.zero_le _⟩
  · obtain ⟨xs, rfl⟩ := all_map (f := celI) fun e h => (he e h).imp fun _ h => h.1
    rw [map_len] at hl
    exact ⟨xs, .refl _, hl⟩
theorem calls4 {avs : List AV} {W : World} {args : Array Value} (h : FitsVs Try.prog 8 Try.f4.params.toList avs) (hr : RelL (ρ0 fun _ => False) old0 W avs args.toList) :
    Calls Try.prog 4 args W fun e w' => e = .returned (.bool true) ∧ Below W.heap.size W w' := by
  obtain ⟨rate, fore, tp, odd, att, pp, re, im, at1, rfl, hx⟩ := fits4 h
  obtain ⟨_, _, hb, _, _, hc, _⟩ := hx
  obtain ⟨xs, w1, l1⟩ := wi_list hb
  obtain ⟨ps, w2, l2⟩ := wi_list hc
  have hw : All2 WiA [AV.agg [AV.v (.int .i64 rate), AV.v (.int .i64 fore), tp, AV.flt (canon odd), AV.v (.int .i64 att)], pp, AV.flt (canon re), AV.flt (canon im), AV.v (.int .i64 at1)] [AV.agg [AV.v (.int .i64 rate), AV.v (.int .i64 fore), .lst 1 (xs.map celI), AV.flt (canon odd), AV.v (.int .i64 att)], .lst 1 (ps.map celI), AV.flt (canon re), AV.flt (canon im), AV.v (.int .i64 at1)] :=
    ⟨.inl ⟨_, _, rfl, rfl, .refl _, .refl _, w1, .refl _, .refl _, trivial⟩, .inr w2, .refl _, .refl _, .refl _, trivial⟩
  have hr := relL_wi hw hr
  obtain ⟨L, hL⟩ : ∃ L, xs.length + ps.length + 65636 ≤ L := ⟨_, Nat.le_refl _⟩
  have k1 := room8 l1
  have hd := @law_shapes L 0 rate fore att at1 xs ps (canon odd) (canon re) (canon im) (by omega) (room8 l2) hL
  exact law (spec_hL (L + 1)) hd hr
end Go.Proofs.Ytaklelfdcbgebaa.Fw
namespace Go.Proofs.Ytaklelfdcbgebaa
open Go.ChangeShapes Go.WideShapes Go.ChangeAt Go.RowKit Fw
theorem pulseShapes_lifted (os : Os) (started : os.Started) (H : Type) (enc : TypeId × Value → H) :
    ReturnsInHanded {} Try.checked os 4 .any (Rows.pulseShapesSpec.pre6 enc Try.prog Try.f4 Rows.pulseShapesRow.domain false) (Rows.pulseShapesSpec.post enc Try.prog Try.f4 false true false false) := by
  refine law_lifted (C := Try.checked) (n := 8) (tb := 4) own started (by kernel_rfl) Try.func4
    (ChangeSpec.witness6 (enc := enc) (C := Try.checked) false ⟨#[], #[.agg #[.int .i64 0, .int .i64 0, .slice none 0 0, .float .f64 0, .int .i64 0], .slice none 0 0, .float .f64 0, .float .f64 0, .int .i64 0], []⟩ 8 (by kernel_rfl) (by kernel_rfl) (by kernel_rfl) (by kernel_rfl))
    laidOut (by kernel_rfl) (by kernel_rfl) rfl ?_ rfl Try.underlying4 fun _ _ _ h hr => calls4 h hr
  intro ds hd
  have hd : ds.length = 5 := hd
  rcases ds with _ | ⟨a, _ | ⟨b, _ | ⟨c, _ | ⟨d, _ | ⟨e, _ | ⟨z, r⟩⟩⟩⟩⟩⟩ <;> simp at hd
  rfl
theorem pulseShapes_holds : Rows.PulseShapesSaid :=
  OpenClaim.holds_of_wide 4 Try.f4 rfl rfl rfl rfl rfl rfl rfl ⟨rfl, rfl, rfl, rfl, rfl⟩ rfl rfl rfl rfl rfl (by kernel_rfl) Try.func4 (by kernel_rfl)
    (of_decide_eq_true (by kernel_rfl)) (by unfold Func.isWrapper; first | (rw [if_pos (by decide +kernel)]; kernel_rfl) | (rw [if_neg (by decide +kernel)]; exact ⟨rfl, rfl⟩))
    (fun os started H enc _ => pulseShapes_lifted os started H enc)
end Go.Proofs.Ytaklelfdcbgebaa
