/- StraitTwo: any two straits that join, any row of whole numbers: through both as one comes what comes through the one and then the other. Conditions: none. -/
import Derived.Test.YtnphdnokedhhkaaLwM3
set_option maxRecDepth 100000
set_option maxHeartbeats 4000000
set_option linter.unusedSimpArgs false
set_option linter.unusedVariables false
namespace Go.Proofs.Ytnphdnokedhhkaa.Fw
open Go Go.RowKit
/-- what the law is handed -/
theorem fits9 {avs : List AV} (h : FitsVs Try.prog 8 Try.f9.params.toList avs) : ∃ (x38 : Int) (x40 : Int) (a42 : AV) (a48 : AV) (x54 : Nat) (x56 : Int) (x86 : Int) (x88 : Int) (a90 : AV) (a96 : AV) (x102 : Nat) (x104 : Int) (a109 : AV), avs = [AV.agg [AV.v (.int .i64 x38), AV.v (.int .i64 x40), a42, a48, AV.flt (canon x54), AV.v (.int .i64 x56)], AV.agg [AV.v (.int .i64 x86), AV.v (.int .i64 x88), a90, a96, AV.flt (canon x102), AV.v (.int .i64 x104)], a109] ∧ (Lit.int .i64 x38).wf = true ∧ (Lit.int .i64 x40).wf = true ∧ (a42 = AV.nils ∨ ∃ els : List (List AV), a42 = AV.lst 1 els ∧ els.length * 8 ≤ reachBytes ∧ ∀ e44 ∈ els, ∃ (x46 : Int), e44 = [AV.v (.int .i64 x46)] ∧ (Lit.int .i64 x46).wf = true) ∧ (a48 = AV.nils ∨ ∃ els : List (List AV), a48 = AV.lst 1 els ∧ els.length * 8 ≤ reachBytes ∧ ∀ e50 ∈ els, ∃ (x52 : Int), e50 = [AV.v (.int .i64 x52)] ∧ (Lit.int .i64 x52).wf = true) ∧ x54 < 2 ^ 64 ∧ (Lit.int .i64 x56).wf = true ∧ (Lit.int .i64 x86).wf = true ∧ (Lit.int .i64 x88).wf = true ∧ (a90 = AV.nils ∨ ∃ els : List (List AV), a90 = AV.lst 1 els ∧ els.length * 8 ≤ reachBytes ∧ ∀ e92 ∈ els, ∃ (x94 : Int), e92 = [AV.v (.int .i64 x94)] ∧ (Lit.int .i64 x94).wf = true) ∧ (a96 = AV.nils ∨ ∃ els : List (List AV), a96 = AV.lst 1 els ∧ els.length * 8 ≤ reachBytes ∧ ∀ e98 ∈ els, ∃ (x100 : Int), e98 = [AV.v (.int .i64 x100)] ∧ (Lit.int .i64 x100).wf = true) ∧ x102 < 2 ^ 64 ∧ (Lit.int .i64 x104).wf = true ∧ (a109 = AV.nils ∨ ∃ els : List (List AV), a109 = AV.lst 1 els ∧ els.length * 8 ≤ reachBytes ∧ ∀ e111 ∈ els, ∃ (x113 : Int), e111 = [AV.v (.int .i64 x113)] ∧ (Lit.int .i64 x113).wf = true) := by
  replace h : FitsVs Try.prog 8 [25, 25, 22] avs := by rw [Try.params9] at h; exact h
  obtain ⟨a1, r2, rfl, h3, h⟩ := fitsVs_cons h
  obtain ⟨a4, r5, rfl, h6, h⟩ := fitsVs_cons h
  obtain ⟨a7, r8, rfl, h9, h⟩ := fitsVs_cons h
  obtain rfl := fitsVs_nil h
  obtain ⟨c10, rfl, h11⟩ := fitsV_struct Try.underlying25 h3
  obtain ⟨p12, rfl, h13⟩ := fits_struct (n := 7) Try.underlying25 h11
  replace h13 : FitsEach (Fits Try.prog 7) [3, 3, 22, 22, 23, 3] p12 := h13
  obtain ⟨p14, r15, rfl, h16, h17⟩ := fitsEach_cons h13
  obtain ⟨p18, r19, rfl, h20, h21⟩ := fitsEach_cons h17
  obtain ⟨p22, r23, rfl, h24, h25⟩ := fitsEach_cons h21
  obtain ⟨p26, r27, rfl, h28, h29⟩ := fitsEach_cons h25
  obtain ⟨p30, r31, rfl, h32, h33⟩ := fitsEach_cons h29
  obtain ⟨p34, r35, rfl, h36, h37⟩ := fitsEach_cons h33
  obtain rfl := fitsEach_nil h37
  obtain ⟨x38, rfl, w39⟩ := fits_int (n := 6) Try.underlying3 h16
  obtain ⟨x40, rfl, w41⟩ := fits_int (n := 6) Try.underlying3 h20
  obtain ⟨a42, rfl, w43⟩ : ∃ (a42 : AV), _ = [a42] ∧ (a42 = AV.nils ∨ ∃ els : List (List AV), a42 = AV.lst 1 els ∧ els.length * 8 ≤ reachBytes ∧ ∀ e44 ∈ els, ∃ (x46 : Int), e44 = [AV.v (.int .i64 x46)] ∧ (Lit.int .i64 x46).wf = true) := by
    rcases fits_slice (n := 6) Try.underlying22 h24 with hh | ⟨els, hh, h1, h2⟩
    · exact ⟨_, hh, .inl rfl⟩
    · refine ⟨_, hh, .inr ⟨els, ?_, ?_, fun e44 he => ?_⟩⟩
      · rw [show Try.prog.cellsOf 3 = 1 by kernel_rfl]
      · rw [show Try.prog.bytesOf 3 = 8 by kernel_rfl] at h1; exact h1
      · have h45 := h2 _ he
        obtain ⟨x46, rfl, w47⟩ := fits_int (n := 5) Try.underlying3 h45
        exact ⟨x46, rfl, w47⟩
  obtain ⟨a48, rfl, w49⟩ : ∃ (a48 : AV), _ = [a48] ∧ (a48 = AV.nils ∨ ∃ els : List (List AV), a48 = AV.lst 1 els ∧ els.length * 8 ≤ reachBytes ∧ ∀ e50 ∈ els, ∃ (x52 : Int), e50 = [AV.v (.int .i64 x52)] ∧ (Lit.int .i64 x52).wf = true) := by
    rcases fits_slice (n := 6) Try.underlying22 h28 with hh | ⟨els, hh, h1, h2⟩
    · exact ⟨_, hh, .inl rfl⟩
    · refine ⟨_, hh, .inr ⟨els, ?_, ?_, fun e50 he => ?_⟩⟩
      · rw [show Try.prog.cellsOf 3 = 1 by kernel_rfl]
      · rw [show Try.prog.bytesOf 3 = 8 by kernel_rfl] at h1; exact h1
      · have h51 := h2 _ he
        obtain ⟨x52, rfl, w53⟩ := fits_int (n := 5) Try.underlying3 h51
        exact ⟨x52, rfl, w53⟩
  obtain ⟨x54, rfl, w55⟩ := fits_flt (n := 6) Try.underlying23 h32
  obtain ⟨x56, rfl, w57⟩ := fits_int (n := 6) Try.underlying3 h36
  obtain ⟨c58, rfl, h59⟩ := fitsV_struct Try.underlying25 h6
  obtain ⟨p60, rfl, h61⟩ := fits_struct (n := 7) Try.underlying25 h59
  replace h61 : FitsEach (Fits Try.prog 7) [3, 3, 22, 22, 23, 3] p60 := h61
  obtain ⟨p62, r63, rfl, h64, h65⟩ := fitsEach_cons h61
  obtain ⟨p66, r67, rfl, h68, h69⟩ := fitsEach_cons h65
  obtain ⟨p70, r71, rfl, h72, h73⟩ := fitsEach_cons h69
  obtain ⟨p74, r75, rfl, h76, h77⟩ := fitsEach_cons h73
  obtain ⟨p78, r79, rfl, h80, h81⟩ := fitsEach_cons h77
  obtain ⟨p82, r83, rfl, h84, h85⟩ := fitsEach_cons h81
  obtain rfl := fitsEach_nil h85
  obtain ⟨x86, rfl, w87⟩ := fits_int (n := 6) Try.underlying3 h64
  obtain ⟨x88, rfl, w89⟩ := fits_int (n := 6) Try.underlying3 h68
  obtain ⟨a90, rfl, w91⟩ : ∃ (a90 : AV), _ = [a90] ∧ (a90 = AV.nils ∨ ∃ els : List (List AV), a90 = AV.lst 1 els ∧ els.length * 8 ≤ reachBytes ∧ ∀ e92 ∈ els, ∃ (x94 : Int), e92 = [AV.v (.int .i64 x94)] ∧ (Lit.int .i64 x94).wf = true) := by
    rcases fits_slice (n := 6) Try.underlying22 h72 with hh | ⟨els, hh, h1, h2⟩
    · exact ⟨_, hh, .inl rfl⟩
    · refine ⟨_, hh, .inr ⟨els, ?_, ?_, fun e92 he => ?_⟩⟩
      · rw [show Try.prog.cellsOf 3 = 1 by kernel_rfl]
      · rw [show Try.prog.bytesOf 3 = 8 by kernel_rfl] at h1; exact h1
      · have h93 := h2 _ he
        obtain ⟨x94, rfl, w95⟩ := fits_int (n := 5) Try.underlying3 h93
        exact ⟨x94, rfl, w95⟩
  obtain ⟨a96, rfl, w97⟩ : ∃ (a96 : AV), _ = [a96] ∧ (a96 = AV.nils ∨ ∃ els : List (List AV), a96 = AV.lst 1 els ∧ els.length * 8 ≤ reachBytes ∧ ∀ e98 ∈ els, ∃ (x100 : Int), e98 = [AV.v (.int .i64 x100)] ∧ (Lit.int .i64 x100).wf = true) := by
    rcases fits_slice (n := 6) Try.underlying22 h76 with hh | ⟨els, hh, h1, h2⟩
    · exact ⟨_, hh, .inl rfl⟩
    · refine ⟨_, hh, .inr ⟨els, ?_, ?_, fun e98 he => ?_⟩⟩
      · rw [show Try.prog.cellsOf 3 = 1 by kernel_rfl]
      · rw [show Try.prog.bytesOf 3 = 8 by kernel_rfl] at h1; exact h1
      · have h99 := h2 _ he
        obtain ⟨x100, rfl, w101⟩ := fits_int (n := 5) Try.underlying3 h99
        exact ⟨x100, rfl, w101⟩
  obtain ⟨x102, rfl, w103⟩ := fits_flt (n := 6) Try.underlying23 h80
  obtain ⟨x104, rfl, w105⟩ := fits_int (n := 6) Try.underlying3 h84
  have h106 := fitsV_slice Try.underlying22 h9
  obtain ⟨c107, h108⟩ : ∃ c, c = [a7] := ⟨_, rfl⟩
  rw [← h108] at h106
  obtain ⟨a109, rfl, w110⟩ : ∃ (a109 : AV), _ = [a109] ∧ (a109 = AV.nils ∨ ∃ els : List (List AV), a109 = AV.lst 1 els ∧ els.length * 8 ≤ reachBytes ∧ ∀ e111 ∈ els, ∃ (x113 : Int), e111 = [AV.v (.int .i64 x113)] ∧ (Lit.int .i64 x113).wf = true) := by
    rcases fits_slice (n := 7) Try.underlying22 h106 with hh | ⟨els, hh, h1, h2⟩
    · exact ⟨_, hh, .inl rfl⟩
    · refine ⟨_, hh, .inr ⟨els, ?_, ?_, fun e111 he => ?_⟩⟩
      · rw [show Try.prog.cellsOf 3 = 1 by kernel_rfl]
      · rw [show Try.prog.bytesOf 3 = 8 by kernel_rfl] at h1; exact h1
      · have h112 := h2 _ he
        obtain ⟨x113, rfl, w114⟩ := fits_int (n := 6) Try.underlying3 h112
        exact ⟨x113, rfl, w114⟩
  obtain rfl := one_inj h108
  exact ⟨x38, x40, a42, a48, x54, x56, x86, x88, a90, a96, x102, x104, a109, rfl, w39, w41, w43, w49, w55, w57, w87, w89, w91, w97, w103, w105, w110⟩
theorem calls9 {avs : List AV} {W : World} {args : Array Value} (h : FitsVs Try.prog 8 Try.f9.params.toList avs) (hr : RelL (ρ0 fun _ => False) old0 W avs args.toList) :
    Calls Try.prog 9 args W fun e w' => e = .returned (.bool true) ∧ Below W.heap.size W w' := by
  obtain ⟨rate0, delay0, t0, e0, odd0, att0, rate1, delay1, t1, e1, odd1, att1, p2, rfl, _, _, ht0, he0, _, _, _, _, ht1, he1, _, _, hp2⟩ := fits9 h
  have key : ∀ {a : AV}, (a = AV.nils ∨ ∃ els : List (List AV), a = AV.lst 1 els ∧ els.length * 8 ≤ reachBytes ∧ ∀ e ∈ els, ∃ (x : Int), e = [AV.v (.int .i64 x)] ∧ (Lit.int .i64 x).wf = true) → ∃ xs : List Int, Wi1 a (.lst 1 (xs.map celI)) ∧ xs.length * 8 ≤ reachBytes := fun {a} h =>
    wi_of (f := celI) (z := 1) (B := 8) (h.imp id fun ⟨els, e1, e2, e3⟩ => ⟨els, e1, e2, fun e he => by
      obtain ⟨x, rfl, _⟩ := e3 e he
      exact ⟨x, rfl⟩⟩)
  obtain ⟨ts0, wt0, lt0⟩ := key ht0
  obtain ⟨es0, we0, le0⟩ := key he0
  obtain ⟨ts1, wt1, lt1⟩ := key ht1
  obtain ⟨es1, we1, le1⟩ := key he1
  obtain ⟨ls2, wl2, ll2⟩ := key hp2
  have hw : All2 WiA [AV.agg [AV.v (.int .i64 rate0), AV.v (.int .i64 delay0), t0, e0, AV.flt (canon odd0), AV.v (.int .i64 att0)], AV.agg [AV.v (.int .i64 rate1), AV.v (.int .i64 delay1), t1, e1, AV.flt (canon odd1), AV.v (.int .i64 att1)], p2]
      [AV.agg [AV.v (.int .i64 rate0), AV.v (.int .i64 delay0), .lst 1 (ts0.map celI), .lst 1 (es0.map celI), AV.flt (canon odd0), AV.v (.int .i64 att0)], AV.agg [AV.v (.int .i64 rate1), AV.v (.int .i64 delay1), .lst 1 (ts1.map celI), .lst 1 (es1.map celI), AV.flt (canon odd1), AV.v (.int .i64 att1)], .lst 1 (ls2.map celI)] :=
    ⟨.inl ⟨_, _, rfl, rfl, ⟨.inl rfl, .inl rfl, wt0, we0, .inl rfl, .inl rfl, trivial⟩⟩, .inl ⟨_, _, rfl, rfl, ⟨.inl rfl, .inl rfl, wt1, we1, .inl rfl, .inl rfl, trivial⟩⟩, .inr wl2, trivial⟩
  have hb : reachBytes = 140737488351232 := by kernel_rfl
  exact law (spec_gL 5001) (@law_two 5000 0 rate0 delay0 att0 rate1 delay1 att1 ts0 es0 ts1 es1 ls2 (canon odd0) (canon odd1) (by omega) (by omega) (by omega) (by omega) (by omega) (Nat.le_refl _)) (relL_wi hw hr)
end Go.Proofs.Ytnphdnokedhhkaa.Fw
namespace Go.Proofs.Ytnphdnokedhhkaa
open Go.ChangeShapes Go.WideShapes Go.ChangeAt Go.RowKit Fw
theorem straitTwo_lifted (os : Os) (started : os.Started) (H : Type) (enc : TypeId × Value → H) :
    ReturnsInHanded {} Try.checked os 9 .any (Rows.straitTwoSpec.pre6 enc Try.prog Try.f9 Rows.straitTwoRow.domain false) (Rows.straitTwoSpec.post enc Try.prog Try.f9 false true false false) := by
  refine law_lifted (C := Try.checked) (n := 8) (tb := 4) own started (by kernel_rfl) Try.func9
    (ChangeSpec.witness6 (enc := enc) (C := Try.checked) false ⟨#[], #[.agg #[.int .i64 0, .int .i64 0, .slice none 0 0, .slice none 0 0, .float .f64 0, .int .i64 0], .agg #[.int .i64 0, .int .i64 0, .slice none 0 0, .slice none 0 0, .float .f64 0, .int .i64 0], .slice none 0 0], []⟩ 8 (by kernel_rfl) (by kernel_rfl) (by kernel_rfl) (by kernel_rfl))
    laidOut (by kernel_rfl) (by kernel_rfl) rfl ?_ rfl Try.underlying4 fun _ _ _ h hr => calls9 h hr
  intro ds hd
  have hd : ds.length = 3 := hd
  rcases ds with _ | ⟨a, _ | ⟨b, _ | ⟨c, _ | ⟨z, r⟩⟩⟩⟩ <;> simp at hd
  rfl
theorem straitTwo_holds : Rows.StraitTwoSaid :=
  OpenClaim.holds_of_wide 9 Try.f9 rfl rfl rfl rfl rfl rfl rfl ⟨rfl, rfl, rfl, rfl, rfl⟩ rfl rfl rfl rfl rfl (by kernel_rfl) Try.func9 (by kernel_rfl)
    (of_decide_eq_true (by kernel_rfl)) (by unfold Func.isWrapper; first | (rw [if_pos (by decide +kernel)]; kernel_rfl) | (rw [if_neg (by decide +kernel)]; exact ⟨rfl, rfl⟩))
    (fun os started H enc _ => straitTwo_lifted os started H enc)
end Go.Proofs.Ytnphdnokedhhkaa
