/- PulseBack: whatever the pulse and the row: picked at the own instants the samples are the points, and they are not above four times as great. Conditions: none. -/
import Derived.Test.YtaklelfdcbgebaaLwBcB
set_option maxRecDepth 100000
set_option maxHeartbeats 4000000
set_option linter.unusedSimpArgs false
set_option linter.unusedVariables false
namespace Go.Proofs.Ytaklelfdcbgebaa.Fw
open Go Go.RowKit
/-- what the law is handed -/
theorem fits8 {avs : List AV} (h : FitsVs Try.prog 8 Try.f8.params.toList avs) : ∃ (x31 : Int) (x33 : Int) (a35 : AV) (x41 : Nat) (x43 : Int) (a48 : AV), avs = [AV.agg [AV.v (.int .i64 x31), AV.v (.int .i64 x33), a35, AV.flt (canon x41), AV.v (.int .i64 x43)], a48] ∧ (Lit.int .i64 x31).wf = true ∧ (Lit.int .i64 x33).wf = true ∧ (a35 = AV.nils ∨ ∃ els : List (List AV), a35 = AV.lst 1 els ∧ els.length * 8 ≤ reachBytes ∧ ∀ e37 ∈ els, ∃ (x39 : Int), e37 = [AV.v (.int .i64 x39)] ∧ (Lit.int .i64 x39).wf = true) ∧ x41 < 2 ^ 64 ∧ (Lit.int .i64 x43).wf = true ∧ (a48 = AV.nils ∨ ∃ els : List (List AV), a48 = AV.lst 1 els ∧ els.length * 8 ≤ reachBytes ∧ ∀ e50 ∈ els, ∃ (x52 : Int), e50 = [AV.v (.int .i64 x52)] ∧ (Lit.int .i64 x52).wf = true) := by
  replace h : FitsVs Try.prog 8 [25, 22] avs := by rw [Try.params8] at h; exact h
  obtain ⟨a1, r2, rfl, h3, h⟩ := fitsVs_cons h
  obtain ⟨a4, r5, rfl, h6, h⟩ := fitsVs_cons h
  obtain rfl := fitsVs_nil h
  obtain ⟨c7, rfl, h8⟩ := fitsV_struct Try.underlying25 h3
  obtain ⟨p9, rfl, h10⟩ := fits_struct (n := 7) Try.underlying25 h8
  replace h10 : FitsEach (Fits Try.prog 7) [3, 3, 22, 23, 3] p9 := h10
  obtain ⟨p11, r12, rfl, h13, h14⟩ := fitsEach_cons h10
  obtain ⟨p15, r16, rfl, h17, h18⟩ := fitsEach_cons h14
  obtain ⟨p19, r20, rfl, h21, h22⟩ := fitsEach_cons h18
  obtain ⟨p23, r24, rfl, h25, h26⟩ := fitsEach_cons h22
  obtain ⟨p27, r28, rfl, h29, h30⟩ := fitsEach_cons h26
  obtain rfl := fitsEach_nil h30
  obtain ⟨x31, rfl, w32⟩ := fits_int (n := 6) Try.underlying3 h13
  obtain ⟨x33, rfl, w34⟩ := fits_int (n := 6) Try.underlying3 h17
  obtain ⟨a35, rfl, w36⟩ : ∃ (a35 : AV), _ = [a35] ∧ (a35 = AV.nils ∨ ∃ els : List (List AV), a35 = AV.lst 1 els ∧ els.length * 8 ≤ reachBytes ∧ ∀ e37 ∈ els, ∃ (x39 : Int), e37 = [AV.v (.int .i64 x39)] ∧ (Lit.int .i64 x39).wf = true) := by
    rcases fits_slice (n := 6) Try.underlying22 h21 with hh | ⟨els, hh, h1, h2⟩
    · exact ⟨_, hh, .inl rfl⟩
    · refine ⟨_, hh, .inr ⟨els, ?_, ?_, fun e37 he => ?_⟩⟩
      · rw [show Try.prog.cellsOf 3 = 1 by kernel_rfl]
      · rw [show Try.prog.bytesOf 3 = 8 by kernel_rfl] at h1; exact h1
      · have h38 := h2 _ he
        obtain ⟨x39, rfl, w40⟩ := fits_int (n := 5) Try.underlying3 h38
        exact ⟨x39, rfl, w40⟩
  obtain ⟨x41, rfl, w42⟩ := fits_flt (n := 6) Try.underlying23 h25
  obtain ⟨x43, rfl, w44⟩ := fits_int (n := 6) Try.underlying3 h29
  have h45 := fitsV_slice Try.underlying22 h6
  obtain ⟨c46, h47⟩ : ∃ c, c = [a4] := ⟨_, rfl⟩
  rw [← h47] at h45
  obtain ⟨a48, rfl, w49⟩ : ∃ (a48 : AV), _ = [a48] ∧ (a48 = AV.nils ∨ ∃ els : List (List AV), a48 = AV.lst 1 els ∧ els.length * 8 ≤ reachBytes ∧ ∀ e50 ∈ els, ∃ (x52 : Int), e50 = [AV.v (.int .i64 x52)] ∧ (Lit.int .i64 x52).wf = true) := by
    rcases fits_slice (n := 7) Try.underlying22 h45 with hh | ⟨els, hh, h1, h2⟩
    · exact ⟨_, hh, .inl rfl⟩
    · refine ⟨_, hh, .inr ⟨els, ?_, ?_, fun e50 he => ?_⟩⟩
      · rw [show Try.prog.cellsOf 3 = 1 by kernel_rfl]
      · rw [show Try.prog.bytesOf 3 = 8 by kernel_rfl] at h1; exact h1
      · have h51 := h2 _ he
        obtain ⟨x52, rfl, w53⟩ := fits_int (n := 6) Try.underlying3 h51
        exact ⟨x52, rfl, w53⟩
  obtain rfl := one_inj h47
  exact ⟨x31, x33, a35, x41, x43, a48, rfl, w32, w34, w36, w42, w44, w49⟩
theorem calls8 {avs : List AV} {W : World} {args : Array Value} (h : FitsVs Try.prog 8 Try.f8.params.toList avs) (hr : RelL (ρ0 fun _ => False) old0 W avs args.toList) :
    Calls Try.prog 8 args W fun e w' => e = .returned (.bool true) ∧ Below W.heap.size W w' := by
  obtain ⟨rate, fore, tp, odd, att, pp, rfl, _, _, hb, _, _, hc⟩ := fits8 h
  obtain ⟨xs, w1, l1⟩ := wi_of (f := celI) (z := 1) (B := 8) (hb.imp id fun ⟨els, e1, e2, e3⟩ => ⟨els, e1, e2, fun e he => by
    obtain ⟨x, rfl, _⟩ := e3 e he
    exact ⟨x, rfl⟩⟩)
  obtain ⟨ps, w2, l2⟩ := wi_of (f := celI) (z := 1) (B := 8) (hc.imp id fun ⟨els, e1, e2, e3⟩ => ⟨els, e1, e2, fun e he => by
    obtain ⟨x, rfl, _⟩ := e3 e he
    exact ⟨x, rfl⟩⟩)
  have hw : All2 WiA [AV.agg [AV.v (.int .i64 rate), AV.v (.int .i64 fore), tp, AV.flt (canon odd), AV.v (.int .i64 att)], pp] [AV.agg [AV.v (.int .i64 rate), AV.v (.int .i64 fore), .lst 1 (xs.map celI), AV.flt (canon odd), AV.v (.int .i64 att)], .lst 1 (ps.map celI)] :=
    ⟨.inl ⟨_, _, rfl, rfl, ⟨.inl rfl, .inl rfl, w1, .inl rfl, .inl rfl, trivial⟩⟩, .inr w2, trivial⟩
  have hb : reachBytes = 140737488351232 := by kernel_rfl
  exact law (spec_bL (70000 + 1)) (@law_back 70000 0 rate fore att xs ps (canon odd) (by omega) (Nat.le_refl _)) (relL_wi hw hr)
end Go.Proofs.Ytaklelfdcbgebaa.Fw
namespace Go.Proofs.Ytaklelfdcbgebaa
open Go.ChangeShapes Go.WideShapes Go.ChangeAt Go.RowKit Fw
theorem pulseBack_lifted (os : Os) (started : os.Started) (H : Type) (enc : TypeId × Value → H) :
    ReturnsInHanded {} Try.checked os 8 .any (Rows.pulseBackSpec.pre6 enc Try.prog Try.f8 Rows.pulseBackRow.domain false) (Rows.pulseBackSpec.post enc Try.prog Try.f8 false true false false) := by
  refine law_lifted (C := Try.checked) (n := 8) (tb := 4) own started (by kernel_rfl) Try.func8
    (ChangeSpec.witness6 (enc := enc) (C := Try.checked) false ⟨#[], #[.agg #[.int .i64 0, .int .i64 0, .slice none 0 0, .float .f64 0, .int .i64 0], .slice none 0 0], []⟩ 8 (by kernel_rfl) (by kernel_rfl) (by kernel_rfl) (by kernel_rfl))
    laidOut (by kernel_rfl) (by kernel_rfl) rfl ?_ rfl Try.underlying4 fun _ _ _ h hr => calls8 h hr
  intro ds hd
  have hd : ds.length = 2 := hd
  rcases ds with _ | ⟨a, _ | ⟨b, _ | ⟨z, r⟩⟩⟩ <;> simp at hd
  rfl
theorem pulseBack_holds : Rows.PulseBackSaid :=
  OpenClaim.holds_of_wide 8 Try.f8 rfl rfl rfl rfl rfl rfl rfl ⟨rfl, rfl, rfl, rfl, rfl⟩ rfl rfl rfl rfl rfl (by kernel_rfl) Try.func8 (by kernel_rfl)
    (of_decide_eq_true (by kernel_rfl)) (by unfold Func.isWrapper; first | (rw [if_pos (by decide +kernel)]; kernel_rfl) | (rw [if_neg (by decide +kernel)]; exact ⟨rfl, rfl⟩))
    (fun os started H enc _ => pulseBack_lifted os started H enc)
end Go.Proofs.Ytaklelfdcbgebaa
