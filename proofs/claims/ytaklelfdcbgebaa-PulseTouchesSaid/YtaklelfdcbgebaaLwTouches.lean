/- PulseTouches: whatever the pulse, the number of points and the sample, pulse.Length and pulse.Touch answer as the document's Length and Touch do. Conditions: none. -/
import Derived.Test.YtaklelfdcbgebaaLwTcD
set_option maxRecDepth 100000
set_option maxHeartbeats 4000000
set_option linter.unusedSimpArgs false
set_option linter.unusedVariables false
namespace Go.Proofs.Ytaklelfdcbgebaa.Fw
open Go Go.RowKit
/-- what the law is handed -/
theorem fits3 {avs : List AV} (h : FitsVs Try.prog 8 Try.f3.params.toList avs) : ∃ (x34 : Int) (x36 : Int) (a38 : AV) (x44 : Nat) (x46 : Int) (x51 : Int) (x56 : Int), avs = [AV.agg [AV.v (.int .i64 x34), AV.v (.int .i64 x36), a38, AV.flt (canon x44), AV.v (.int .i64 x46)], AV.v (.int .i64 x51), AV.v (.int .i64 x56)] ∧ (Lit.int .i64 x34).wf = true ∧ (Lit.int .i64 x36).wf = true ∧ (a38 = AV.nils ∨ ∃ els : List (List AV), a38 = AV.lst 1 els ∧ els.length * 8 ≤ reachBytes ∧ ∀ e40 ∈ els, ∃ (x42 : Int), e40 = [AV.v (.int .i64 x42)] ∧ (Lit.int .i64 x42).wf = true) ∧ x44 < 2 ^ 64 ∧ (Lit.int .i64 x46).wf = true ∧ (Lit.int .i64 x51).wf = true ∧ (Lit.int .i64 x56).wf = true := by
  replace h : FitsVs Try.prog 8 [25, 3, 3] avs := by rw [Try.params3] at h; exact h
  obtain ⟨a1, r2, rfl, h3, h⟩ := fitsVs_cons h
  obtain ⟨a4, r5, rfl, h6, h⟩ := fitsVs_cons h
  obtain ⟨a7, r8, rfl, h9, h⟩ := fitsVs_cons h
  obtain rfl := fitsVs_nil h
  obtain ⟨c10, rfl, h11⟩ := fitsV_struct Try.underlying25 h3
  obtain ⟨p12, rfl, h13⟩ := fits_struct (n := 7) Try.underlying25 h11
  replace h13 : FitsEach (Fits Try.prog 7) [3, 3, 22, 23, 3] p12 := h13
  obtain ⟨p14, r15, rfl, h16, h17⟩ := fitsEach_cons h13
  obtain ⟨p18, r19, rfl, h20, h21⟩ := fitsEach_cons h17
  obtain ⟨p22, r23, rfl, h24, h25⟩ := fitsEach_cons h21
  obtain ⟨p26, r27, rfl, h28, h29⟩ := fitsEach_cons h25
  obtain ⟨p30, r31, rfl, h32, h33⟩ := fitsEach_cons h29
  obtain rfl := fitsEach_nil h33
  obtain ⟨x34, rfl, w35⟩ := fits_int (n := 6) Try.underlying3 h16
  obtain ⟨x36, rfl, w37⟩ := fits_int (n := 6) Try.underlying3 h20
  obtain ⟨a38, rfl, w39⟩ : ∃ (a38 : AV), _ = [a38] ∧ (a38 = AV.nils ∨ ∃ els : List (List AV), a38 = AV.lst 1 els ∧ els.length * 8 ≤ reachBytes ∧ ∀ e40 ∈ els, ∃ (x42 : Int), e40 = [AV.v (.int .i64 x42)] ∧ (Lit.int .i64 x42).wf = true) := by
    rcases fits_slice (n := 6) Try.underlying22 h24 with hh | ⟨els, hh, h1, h2⟩
    · exact ⟨_, hh, .inl rfl⟩
    · refine ⟨_, hh, .inr ⟨els, ?_, ?_, fun e40 he => ?_⟩⟩
      · rw [show Try.prog.cellsOf 3 = 1 by kernel_rfl]
      · rw [show Try.prog.bytesOf 3 = 8 by kernel_rfl] at h1; exact h1
      · have h41 := h2 _ he
        obtain ⟨x42, rfl, w43⟩ := fits_int (n := 5) Try.underlying3 h41
        exact ⟨x42, rfl, w43⟩
  obtain ⟨x44, rfl, w45⟩ := fits_flt (n := 6) Try.underlying23 h28
  obtain ⟨x46, rfl, w47⟩ := fits_int (n := 6) Try.underlying3 h32
  have h48 := fitsV_int Try.underlying3 h6
  obtain ⟨c49, h50⟩ : ∃ c, c = [a4] := ⟨_, rfl⟩
  rw [← h50] at h48
  obtain ⟨x51, rfl, w52⟩ := fits_int (n := 7) Try.underlying3 h48
  obtain rfl := one_inj h50
  have h53 := fitsV_int Try.underlying3 h9
  obtain ⟨c54, h55⟩ : ∃ c, c = [a7] := ⟨_, rfl⟩
  rw [← h55] at h53
  obtain ⟨x56, rfl, w57⟩ := fits_int (n := 7) Try.underlying3 h53
  obtain rfl := one_inj h55
  exact ⟨x34, x36, a38, x44, x46, x51, x56, rfl, w35, w37, w39, w45, w47, w52, w57⟩
theorem spec_lL (L : Nat) : SpecOk Try.prog ⟨fnOf, specL, L⟩ := fun f g h => spec_l f g h
theorem room8 {m : Nat} (h : m * 8 ≤ reachBytes) : m ≤ 17592186044415 := by
  have : reachBytes = 140737488351232 := by kernel_rfl
  omega
theorem calls3 {avs : List AV} {W : World} {args : Array Value} (h : FitsVs Try.prog 8 Try.f3.params.toList avs) (hr : RelL (ρ0 fun _ => False) old0 W avs args.toList) :
    Calls Try.prog 3 args W fun e w' => e = .returned (.bool true) ∧ Below W.heap.size W w' := by
  obtain ⟨rate, fore, tp, odd, at1, k, att, rfl, hx⟩ := fits3 h
  obtain ⟨_, _, hb, _⟩ := hx
  have main : ∀ xs : List Int, xs.length * 8 ≤ reachBytes → RelL (ρ0 fun _ => False) old0 W [AV.agg [AV.v (.int .i64 rate), AV.v (.int .i64 fore), .lst 1 (xs.map celI), AV.flt (canon odd), AV.v (.int .i64 at1)], AV.v (.int .i64 k), AV.v (.int .i64 att)] args.toList →
      Calls Try.prog 3 args W fun e w' => e = .returned (.bool true) ∧ Below W.heap.size W w' := by
    intro xs hl hr
    obtain ⟨L, hL⟩ : ∃ L, xs.length + 65536 ≤ L := ⟨_, Nat.le_refl _⟩
    have hd := @law_touches L 0 rate fore at1 k att xs (canon odd) (room8 hl) hL
    exact law (spec_lL (L + 1)) hd hr
  rcases hb with rfl | ⟨els, rfl, hl, he⟩
  · have hw : All2 WiA [AV.agg [AV.v (.int .i64 rate), AV.v (.int .i64 fore), .nils, AV.flt (canon odd), AV.v (.int .i64 at1)], AV.v (.int .i64 k), AV.v (.int .i64 att)] [AV.agg [AV.v (.int .i64 rate), AV.v (.int .i64 fore), .lst 1 [], AV.flt (canon odd), AV.v (.int .i64 at1)], AV.v (.int .i64 k), AV.v (.int .i64 att)] :=
      ⟨.inl ⟨_, _, rfl, rfl, .refl _, .refl _, .inr ⟨rfl, 1, rfl⟩, .refl _, .refl _, trivial⟩, .refl _, .refl _, trivial⟩
    exact main [] (by rw [List.length_nil, Nat.zero_mul]; exact Nat.zero_le _) (relL_wi hw hr)
  · obtain ⟨xs, rfl⟩ := all_map (f := celI) fun e h => (he e h).imp fun _ h => h.1
    rw [map_len] at hl
    exact main xs hl hr
end Go.Proofs.Ytaklelfdcbgebaa.Fw
namespace Go.Proofs.Ytaklelfdcbgebaa
open Go.ChangeShapes Go.WideShapes Go.ChangeAt Go.RowKit Fw
theorem pulseTouches_lifted (os : Os) (started : os.Started) (H : Type) (enc : TypeId × Value → H) :
    ReturnsInHanded {} Try.checked os 3 .any (Rows.pulseTouchesSpec.pre6 enc Try.prog Try.f3 Rows.pulseTouchesRow.domain false) (Rows.pulseTouchesSpec.post enc Try.prog Try.f3 false true false false) := by
  refine law_lifted (C := Try.checked) (n := 8) (tb := 4) own started (by kernel_rfl) Try.func3
    (ChangeSpec.witness6 (enc := enc) (C := Try.checked) false ⟨#[], #[.agg #[.int .i64 0, .int .i64 0, .slice none 0 0, .float .f64 0, .int .i64 0], .int .i64 0, .int .i64 0], []⟩ 8 (by kernel_rfl) (by kernel_rfl) (by kernel_rfl) (by kernel_rfl))
    laidOut (by kernel_rfl) (by kernel_rfl) rfl ?_ rfl Try.underlying4 fun _ _ _ h hr => calls3 h hr
  intro ds hd
  have hd : ds.length = 3 := hd
  rcases ds with _ | ⟨a, _ | ⟨b, _ | ⟨c, _ | ⟨z, r⟩⟩⟩⟩ <;> simp at hd
  rfl
theorem pulseTouches_holds : Rows.PulseTouchesSaid :=
  OpenClaim.holds_of_wide 3 Try.f3 rfl rfl rfl rfl rfl rfl rfl ⟨rfl, rfl, rfl, rfl, rfl⟩ rfl rfl rfl rfl rfl (by kernel_rfl) Try.func3 (by kernel_rfl)
    (of_decide_eq_true (by kernel_rfl)) (by unfold Func.isWrapper; first | (rw [if_pos (by decide +kernel)]; kernel_rfl) | (rw [if_neg (by decide +kernel)]; exact ⟨rfl, rfl⟩))
    (fun os started H enc _ => pulseTouches_lifted os started H enc)
end Go.Proofs.Ytaklelfdcbgebaa
