/- StraitLate: any strait without an own voice: a longer delay, a halved one. Conditions: none. -/
import Derived.Test.YtnphdnokedhhkaaLwM3
set_option maxRecDepth 100000
set_option maxHeartbeats 4000000
set_option linter.unusedSimpArgs false
set_option linter.unusedVariables false
namespace Go.Proofs.Ytnphdnokedhhkaa.Fw
open Go Go.RowKit
/-- what the law is handed -/
theorem fits12 {avs : List AV} (h : FitsVs Try.prog 8 Try.f12.params.toList avs) : ∃ (x38 : Int) (x40 : Int) (a42 : AV) (a48 : AV) (x54 : Nat) (x56 : Int) (a61 : AV) (x70 : Int), avs = [AV.agg [AV.v (.int .i64 x38), AV.v (.int .i64 x40), a42, a48, AV.flt (canon x54), AV.v (.int .i64 x56)], a61, AV.v (.int .i64 x70)] ∧ (Lit.int .i64 x38).wf = true ∧ (Lit.int .i64 x40).wf = true ∧ (a42 = AV.nils ∨ ∃ els : List (List AV), a42 = AV.lst 1 els ∧ els.length * 8 ≤ reachBytes ∧ ∀ e44 ∈ els, ∃ (x46 : Int), e44 = [AV.v (.int .i64 x46)] ∧ (Lit.int .i64 x46).wf = true) ∧ (a48 = AV.nils ∨ ∃ els : List (List AV), a48 = AV.lst 1 els ∧ els.length * 8 ≤ reachBytes ∧ ∀ e50 ∈ els, ∃ (x52 : Int), e50 = [AV.v (.int .i64 x52)] ∧ (Lit.int .i64 x52).wf = true) ∧ x54 < 2 ^ 64 ∧ (Lit.int .i64 x56).wf = true ∧ (a61 = AV.nils ∨ ∃ els : List (List AV), a61 = AV.lst 1 els ∧ els.length * 8 ≤ reachBytes ∧ ∀ e63 ∈ els, ∃ (x65 : Int), e63 = [AV.v (.int .i64 x65)] ∧ (Lit.int .i64 x65).wf = true) ∧ (Lit.int .i64 x70).wf = true := by
  replace h : FitsVs Try.prog 8 [25, 22, 3] avs := by rw [Try.params12] at h; exact h
  obtain ⟨a1, r2, rfl, h3, h⟩ := fitsVs_cons h
  obtain ⟨a4, r5, rfl, h6, h⟩ := fitsVs_cons h
  obtain ⟨a7, r8, rfl, h9, h⟩ := fitsVs_cons h
  obtain rfl := fitsVs_nil h
  obtain ⟨c10, rfl, h11⟩ := fitsV_struct Try.underlying25 h3
  obtain ⟨p12, rfl, h13⟩ := fits_struct (n := 7) Try.underlying25 h11
  replace h13 : FitsEach (Fits Try.prog 7) [3, 3, 22, 22, 23, 3] p12 := h13
  obtain ⟨p14, r15, rfl, h16, h17⟩ := fitsEach_cons h13
  obtain ⟨p18, r19, rfl, h20, h21⟩ := fitsEach_cons h17
  obtain ⟨p22, r23, rfl, h24, h25⟩ := fitsEach_cons h21
  obtain ⟨p26, r27, rfl, h28, h29⟩ := fitsEach_cons h25
  obtain ⟨p30, r31, rfl, h32, h33⟩ := fitsEach_cons h29
  obtain ⟨p34, r35, rfl, h36, h37⟩ := fitsEach_cons h33
  obtain rfl := fitsEach_nil h37
  obtain ⟨x38, rfl, w39⟩ := fits_int (n := 6) Try.underlying3 h16
  obtain ⟨x40, rfl, w41⟩ := fits_int (n := 6) Try.underlying3 h20
  obtain ⟨a42, rfl, w43⟩ : ∃ (a42 : AV), _ = [a42] ∧ (a42 = AV.nils ∨ ∃ els : List (List AV), a42 = AV.lst 1 els ∧ els.length * 8 ≤ reachBytes ∧ ∀ e44 ∈ els, ∃ (x46 : Int), e44 = [AV.v (.int .i64 x46)] ∧ (Lit.int .i64 x46).wf = true) := by
    rcases fits_slice (n := 6) Try.underlying22 h24 with hh | ⟨els, hh, h1, h2⟩
    · exact ⟨_, hh, .inl rfl⟩
    · refine ⟨_, hh, .inr ⟨els, ?_, ?_, fun e44 he => ?_⟩⟩
      · rw [show Try.prog.cellsOf 3 = 1 by kernel_rfl]
      · rw [show Try.prog.bytesOf 3 = 8 by kernel_rfl] at h1; exact h1
      · have h45 := h2 _ he
        obtain ⟨x46, rfl, w47⟩ := fits_int (n := 5) Try.underlying3 h45
        exact ⟨x46, rfl, w47⟩
  obtain ⟨a48, rfl, w49⟩ : ∃ (a48 : AV), _ = [a48] ∧ (a48 = AV.nils ∨ ∃ els : List (List AV), a48 = AV.lst 1 els ∧ els.length * 8 ≤ reachBytes ∧ ∀ e50 ∈ els, ∃ (x52 : Int), e50 = [AV.v (.int .i64 x52)] ∧ (Lit.int .i64 x52).wf = true) := by
    rcases fits_slice (n := 6) Try.underlying22 h28 with hh | ⟨els, hh, h1, h2⟩
    · exact ⟨_, hh, .inl rfl⟩
    · refine ⟨_, hh, .inr ⟨els, ?_, ?_, fun e50 he => ?_⟩⟩
      · rw [show Try.prog.cellsOf 3 = 1 by kernel_rfl]
      · rw [show Try.prog.bytesOf 3 = 8 by kernel_rfl] at h1; exact h1
      · have h51 := h2 _ he
        obtain ⟨x52, rfl, w53⟩ := fits_int (n := 5) Try.underlying3 h51
        exact ⟨x52, rfl, w53⟩
  obtain ⟨x54, rfl, w55⟩ := fits_flt (n := 6) Try.underlying23 h32
  obtain ⟨x56, rfl, w57⟩ := fits_int (n := 6) Try.underlying3 h36
  have h58 := fitsV_slice Try.underlying22 h6
  obtain ⟨c59, h60⟩ : ∃ c, c = [a4] := ⟨_, rfl⟩
  rw [← h60] at h58
  obtain ⟨a61, rfl, w62⟩ : ∃ (a61 : AV), _ = [a61] ∧ (a61 = AV.nils ∨ ∃ els : List (List AV), a61 = AV.lst 1 els ∧ els.length * 8 ≤ reachBytes ∧ ∀ e63 ∈ els, ∃ (x65 : Int), e63 = [AV.v (.int .i64 x65)] ∧ (Lit.int .i64 x65).wf = true) := by
    rcases fits_slice (n := 7) Try.underlying22 h58 with hh | ⟨els, hh, h1, h2⟩
    · exact ⟨_, hh, .inl rfl⟩
    · refine ⟨_, hh, .inr ⟨els, ?_, ?_, fun e63 he => ?_⟩⟩
      · rw [show Try.prog.cellsOf 3 = 1 by kernel_rfl]
      · rw [show Try.prog.bytesOf 3 = 8 by kernel_rfl] at h1; exact h1
      · have h64 := h2 _ he
        obtain ⟨x65, rfl, w66⟩ := fits_int (n := 6) Try.underlying3 h64
        exact ⟨x65, rfl, w66⟩
  obtain rfl := one_inj h60
  have h67 := fitsV_int Try.underlying3 h9
  obtain ⟨c68, h69⟩ : ∃ c, c = [a7] := ⟨_, rfl⟩
  rw [← h69] at h67
  obtain ⟨x70, rfl, w71⟩ := fits_int (n := 7) Try.underlying3 h67
  obtain rfl := one_inj h69
  exact ⟨x38, x40, a42, a48, x54, x56, a61, x70, rfl, w39, w41, w43, w49, w55, w57, w62, w71⟩
theorem calls12 {avs : List AV} {W : World} {args : Array Value} (h : FitsVs Try.prog 8 Try.f12.params.toList avs) (hr : RelL (ρ0 fun _ => False) old0 W avs args.toList) :
    Calls Try.prog 12 args W fun e w' => e = .returned (.bool true) ∧ Below W.heap.size W w' := by
  obtain ⟨rate0, delay0, t0, e0, odd0, att0, p1, n2, rfl, _, _, ht0, he0, _, _, hp1, _⟩ := fits12 h
  have key : ∀ {a : AV}, (a = AV.nils ∨ ∃ els : List (List AV), a = AV.lst 1 els ∧ els.length * 8 ≤ reachBytes ∧ ∀ e ∈ els, ∃ (x : Int), e = [AV.v (.int .i64 x)] ∧ (Lit.int .i64 x).wf = true) → ∃ xs : List Int, Wi1 a (.lst 1 (xs.map celI)) ∧ xs.length * 8 ≤ reachBytes := fun {a} h =>
    wi_of (f := celI) (z := 1) (B := 8) (h.imp id fun ⟨els, e1, e2, e3⟩ => ⟨els, e1, e2, fun e he => by
      obtain ⟨x, rfl, _⟩ := e3 e he
      exact ⟨x, rfl⟩⟩)
  obtain ⟨ts0, wt0, lt0⟩ := key ht0
  obtain ⟨es0, we0, le0⟩ := key he0
  obtain ⟨ls1, wl1, ll1⟩ := key hp1
  have hw : All2 WiA [AV.agg [AV.v (.int .i64 rate0), AV.v (.int .i64 delay0), t0, e0, AV.flt (canon odd0), AV.v (.int .i64 att0)], p1, AV.v (.int .i64 n2)]
      [AV.agg [AV.v (.int .i64 rate0), AV.v (.int .i64 delay0), .lst 1 (ts0.map celI), .lst 1 (es0.map celI), AV.flt (canon odd0), AV.v (.int .i64 att0)], .lst 1 (ls1.map celI), AV.v (.int .i64 n2)] :=
    ⟨.inl ⟨_, _, rfl, rfl, ⟨.inl rfl, .inl rfl, wt0, we0, .inl rfl, .inl rfl, trivial⟩⟩, .inr wl1, .refl _, trivial⟩
  have hb : reachBytes = 140737488351232 := by kernel_rfl
  exact law (spec_gL 5001) (@law_late 5000 0 rate0 delay0 att0 n2 ts0 es0 ls1 (canon odd0) (by omega) (by omega) (by omega) (Nat.le_refl _)) (relL_wi hw hr)
end Go.Proofs.Ytnphdnokedhhkaa.Fw
namespace Go.Proofs.Ytnphdnokedhhkaa
open Go.ChangeShapes Go.WideShapes Go.ChangeAt Go.RowKit Fw
theorem straitLate_lifted (os : Os) (started : os.Started) (H : Type) (enc : TypeId × Value → H) :
    ReturnsInHanded {} Try.checked os 12 .any (Rows.straitLateSpec.pre6 enc Try.prog Try.f12 Rows.straitLateRow.domain false) (Rows.straitLateSpec.post enc Try.prog Try.f12 false true false false) := by
  refine law_lifted (C := Try.checked) (n := 8) (tb := 4) own started (by kernel_rfl) Try.func12
    (ChangeSpec.witness6 (enc := enc) (C := Try.checked) false ⟨#[], #[.agg #[.int .i64 0, .int .i64 0, .slice none 0 0, .slice none 0 0, .float .f64 0, .int .i64 0], .slice none 0 0, .int .i64 0], []⟩ 8 (by kernel_rfl) (by kernel_rfl) (by kernel_rfl) (by kernel_rfl))
    laidOut (by kernel_rfl) (by kernel_rfl) rfl ?_ rfl Try.underlying4 fun _ _ _ h hr => calls12 h hr
  intro ds hd
  have hd : ds.length = 3 := hd
  rcases ds with _ | ⟨a, _ | ⟨b, _ | ⟨c, _ | ⟨z, r⟩⟩⟩⟩ <;> simp at hd
  rfl
theorem straitLate_holds : Rows.StraitLateSaid :=
  OpenClaim.holds_of_wide 12 Try.f12 rfl rfl rfl rfl rfl rfl rfl ⟨rfl, rfl, rfl, rfl, rfl⟩ rfl rfl rfl rfl rfl (by kernel_rfl) Try.func12 (by kernel_rfl)
    (of_decide_eq_true (by kernel_rfl)) (by unfold Func.isWrapper; first | (rw [if_pos (by decide +kernel)]; kernel_rfl) | (rw [if_neg (by decide +kernel)]; exact ⟨rfl, rfl⟩))
    (fun os started H enc _ => straitLate_lifted os started H enc)
end Go.Proofs.Ytnphdnokedhhkaa
