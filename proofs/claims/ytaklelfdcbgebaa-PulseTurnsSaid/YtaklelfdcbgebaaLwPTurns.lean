/- PulseTurns: whatever the pulse, the row and the stretch: by the turned pulse the row turned about becomes the samples turned about, by the stretched one the same samples with noughts between. Conditions: none. -/
import Derived.Test.YtaklelfdcbgebaaLwPTuB
set_option maxRecDepth 100000
set_option maxHeartbeats 4000000
set_option linter.unusedSimpArgs false
set_option linter.unusedVariables false
namespace Go.Proofs.Ytaklelfdcbgebaa.Fw
open Go Go.RowKit
/-- what the law is handed -/
theorem fits11 {avs : List AV} (h : FitsVs Try.prog 8 Try.f11.params.toList avs) : ∃ (x34 : Int) (x36 : Int) (a38 : AV) (x44 : Nat) (x46 : Int) (a51 : AV) (x60 : Int), avs = [AV.agg [AV.v (.int .i64 x34), AV.v (.int .i64 x36), a38, AV.flt (canon x44), AV.v (.int .i64 x46)], a51, AV.v (.int .i64 x60)] ∧ (Lit.int .i64 x34).wf = true ∧ (Lit.int .i64 x36).wf = true ∧ (a38 = AV.nils ∨ ∃ els : List (List AV), a38 = AV.lst 1 els ∧ els.length * 8 ≤ reachBytes ∧ ∀ e40 ∈ els, ∃ (x42 : Int), e40 = [AV.v (.int .i64 x42)] ∧ (Lit.int .i64 x42).wf = true) ∧ x44 < 2 ^ 64 ∧ (Lit.int .i64 x46).wf = true ∧ (a51 = AV.nils ∨ ∃ els : List (List AV), a51 = AV.lst 1 els ∧ els.length * 8 ≤ reachBytes ∧ ∀ e53 ∈ els, ∃ (x55 : Int), e53 = [AV.v (.int .i64 x55)] ∧ (Lit.int .i64 x55).wf = true) ∧ (Lit.int .i64 x60).wf = true := by
  replace h : FitsVs Try.prog 8 [25, 22, 3] avs := by rw [Try.params11] at h; exact h
  obtain ⟨a1, r2, rfl, h3, h⟩ := fitsVs_cons h
  obtain ⟨a4, r5, rfl, h6, h⟩ := fitsVs_cons h
  obtain ⟨a7, r8, rfl, h9, h⟩ := fitsVs_cons h
  obtain rfl := fitsVs_nil h
  obtain ⟨c10, rfl, h11⟩ := fitsV_struct Try.underlying25 h3
  obtain ⟨p12, rfl, h13⟩ := fits_struct (n := 7) Try.underlying25 h11
  replace h13 : FitsEach (Fits Try.prog 7) [3, 3, 22, 23, 3] p12 := h13
  obtain ⟨p14, r15, rfl, h16, h17⟩ := fitsEach_cons h13
  obtain ⟨p18, r19, rfl, h20, h21⟩ := fitsEach_cons h17
  obtain ⟨p22, r23, rfl, h24, h25⟩ := fitsEach_cons h21
  obtain ⟨p26, r27, rfl, h28, h29⟩ := fitsEach_cons h25
  obtain ⟨p30, r31, rfl, h32, h33⟩ := fitsEach_cons h29
  obtain rfl := fitsEach_nil h33
  obtain ⟨x34, rfl, w35⟩ := fits_int (n := 6) Try.underlying3 h16
  obtain ⟨x36, rfl, w37⟩ := fits_int (n := 6) Try.underlying3 h20
  obtain ⟨a38, rfl, w39⟩ : ∃ (a38 : AV), _ = [a38] ∧ (a38 = AV.nils ∨ ∃ els : List (List AV), a38 = AV.lst 1 els ∧ els.length * 8 ≤ reachBytes ∧ ∀ e40 ∈ els, ∃ (x42 : Int), e40 = [AV.v (.int .i64 x42)] ∧ (Lit.int .i64 x42).wf = true) := by
    rcases fits_slice (n := 6) Try.underlying22 h24 with hh | ⟨els, hh, h1, h2⟩
    · exact ⟨_, hh, .inl rfl⟩
    · refine ⟨_, hh, .inr ⟨els, ?_, ?_, fun e40 he => ?_⟩⟩
      · rw [show Try.prog.cellsOf 3 = 1 by kernel_rfl]
      · rw [show Try.prog.bytesOf 3 = 8 by kernel_rfl] at h1; exact h1
      · have h41 := h2 _ he
        obtain ⟨x42, rfl, w43⟩ := fits_int (n := 5) Try.underlying3 h41
        exact ⟨x42, rfl, w43⟩
  obtain ⟨x44, rfl, w45⟩ := fits_flt (n := 6) Try.underlying23 h28
  obtain ⟨x46, rfl, w47⟩ := fits_int (n := 6) Try.underlying3 h32
  have h48 := fitsV_slice Try.underlying22 h6
  obtain ⟨c49, h50⟩ : ∃ c, c = [a4] := ⟨_, rfl⟩
  rw [← h50] at h48
  obtain ⟨a51, rfl, w52⟩ : ∃ (a51 : AV), _ = [a51] ∧ (a51 = AV.nils ∨ ∃ els : List (List AV), a51 = AV.lst 1 els ∧ els.length * 8 ≤ reachBytes ∧ ∀ e53 ∈ els, ∃ (x55 : Int), e53 = [AV.v (.int .i64 x55)] ∧ (Lit.int .i64 x55).wf = true) := by
    rcases fits_slice (n := 7) Try.underlying22 h48 with hh | ⟨els, hh, h1, h2⟩
    · exact ⟨_, hh, .inl rfl⟩
    · refine ⟨_, hh, .inr ⟨els, ?_, ?_, fun e53 he => ?_⟩⟩
      · rw [show Try.prog.cellsOf 3 = 1 by kernel_rfl]
      · rw [show Try.prog.bytesOf 3 = 8 by kernel_rfl] at h1; exact h1
      · have h54 := h2 _ he
        obtain ⟨x55, rfl, w56⟩ := fits_int (n := 6) Try.underlying3 h54
        exact ⟨x55, rfl, w56⟩
  obtain rfl := one_inj h50
  have h57 := fitsV_int Try.underlying3 h9
  obtain ⟨c58, h59⟩ : ∃ c, c = [a7] := ⟨_, rfl⟩
  rw [← h59] at h57
  obtain ⟨x60, rfl, w61⟩ := fits_int (n := 7) Try.underlying3 h57
  obtain rfl := one_inj h59
  exact ⟨x34, x36, a38, x44, x46, a51, x60, rfl, w35, w37, w39, w45, w47, w52, w61⟩
theorem calls11 {avs : List AV} {W : World} {args : Array Value} (h : FitsVs Try.prog 8 Try.f11.params.toList avs) (hr : RelL (ρ0 fun _ => False) old0 W avs args.toList) :
    Calls Try.prog 11 args W fun e w' => e = .returned (.bool true) ∧ Below W.heap.size W w' := by
  obtain ⟨rate, fore, tp, odd, att, pp, m, rfl, _, _, hb, _, _, hc, _⟩ := fits11 h
  obtain ⟨xs, w1, l1⟩ := wi_of (f := celI) (z := 1) (B := 8) (hb.imp id fun ⟨els, e1, e2, e3⟩ => ⟨els, e1, e2, fun e he => by
    obtain ⟨x, rfl, _⟩ := e3 e he
    exact ⟨x, rfl⟩⟩)
  obtain ⟨ps, w2, l2⟩ := wi_of (f := celI) (z := 1) (B := 8) (hc.imp id fun ⟨els, e1, e2, e3⟩ => ⟨els, e1, e2, fun e he => by
    obtain ⟨x, rfl, _⟩ := e3 e he
    exact ⟨x, rfl⟩⟩)
  have hw : All2 WiA [AV.agg [AV.v (.int .i64 rate), AV.v (.int .i64 fore), tp, AV.flt (canon odd), AV.v (.int .i64 att)], pp, AV.v (.int .i64 m)] [AV.agg [AV.v (.int .i64 rate), AV.v (.int .i64 fore), .lst 1 (xs.map celI), AV.flt (canon odd), AV.v (.int .i64 att)], .lst 1 (ps.map celI), AV.v (.int .i64 m)] :=
    ⟨.inl ⟨_, _, rfl, rfl, ⟨.inl rfl, .inl rfl, w1, .inl rfl, .inl rfl, trivial⟩⟩, .inr w2, .refl _, trivial⟩
  have hb : reachBytes = 140737488351232 := by kernel_rfl
  exact law (spec_bL (70000 + 1)) (@law_turns 70000 0 rate fore att m xs ps (canon odd) (by omega) (Nat.le_refl _)) (relL_wi hw hr)
end Go.Proofs.Ytaklelfdcbgebaa.Fw
namespace Go.Proofs.Ytaklelfdcbgebaa
open Go.ChangeShapes Go.WideShapes Go.ChangeAt Go.RowKit Fw
theorem pulseTurns_lifted (os : Os) (started : os.Started) (H : Type) (enc : TypeId × Value → H) :
    ReturnsInHanded {} Try.checked os 11 .any (Rows.pulseTurnsSpec.pre6 enc Try.prog Try.f11 Rows.pulseTurnsRow.domain false) (Rows.pulseTurnsSpec.post enc Try.prog Try.f11 false true false false) := by
  refine law_lifted (C := Try.checked) (n := 8) (tb := 4) own started (by kernel_rfl) Try.func11
    (ChangeSpec.witness6 (enc := enc) (C := Try.checked) false ⟨#[], #[.agg #[.int .i64 0, .int .i64 0, .slice none 0 0, .float .f64 0, .int .i64 0], .slice none 0 0, .int .i64 0], []⟩ 8 (by kernel_rfl) (by kernel_rfl) (by kernel_rfl) (by kernel_rfl))
    laidOut (by kernel_rfl) (by kernel_rfl) rfl ?_ rfl Try.underlying4 fun _ _ _ h hr => calls11 h hr
  intro ds hd
  have hd : ds.length = 3 := hd
  rcases ds with _ | ⟨a, _ | ⟨b, _ | ⟨c, _ | ⟨z, r⟩⟩⟩⟩ <;> simp at hd
  rfl
theorem pulseTurns_holds : Rows.PulseTurnsSaid :=
  OpenClaim.holds_of_wide 11 Try.f11 rfl rfl rfl rfl rfl rfl rfl ⟨rfl, rfl, rfl, rfl, rfl⟩ rfl rfl rfl rfl rfl (by kernel_rfl) Try.func11 (by kernel_rfl)
    (of_decide_eq_true (by kernel_rfl)) (by unfold Func.isWrapper; first | (rw [if_pos (by decide +kernel)]; kernel_rfl) | (rw [if_neg (by decide +kernel)]; exact ⟨rfl, rfl⟩))
    (fun os started H enc _ => pulseTurns_lifted os started H enc)
end Go.Proofs.Ytaklelfdcbgebaa
