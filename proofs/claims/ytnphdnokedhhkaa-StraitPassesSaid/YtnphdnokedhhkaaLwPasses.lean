/- StraitPasses: any strait, any rows, any length: what comes through is what chapter 10 says; new memory. Conditions: none. -/
import Derived.Test.YtnphdnokedhhkaaLwPwC
set_option maxRecDepth 100000
set_option maxHeartbeats 4000000
set_option linter.unusedSimpArgs false
set_option linter.unusedVariables false
namespace Go.Proofs.Ytnphdnokedhhkaa.Fw
open Go Go.RowKit
/-- what the law is handed -/
theorem fits4 {avs : List AV} (h : FitsVs Try.prog 8 Try.f4.params.toList avs) : ∃ (x50 : Int) (x52 : Int) (a54 : AV) (a60 : AV) (x66 : Nat) (x68 : Int) (a73 : AV) (a82 : AV) (x91 : Int) (x96 : Nat) (x101 : Nat) (x106 : Int), avs = [AV.agg [AV.v (.int .i64 x50), AV.v (.int .i64 x52), a54, a60, AV.flt (canon x66), AV.v (.int .i64 x68)], a73, a82, AV.v (.int .i64 x91), AV.flt (canon x96), AV.flt (canon x101), AV.v (.int .i64 x106)] ∧ (Lit.int .i64 x50).wf = true ∧ (Lit.int .i64 x52).wf = true ∧ (a54 = AV.nils ∨ ∃ els : List (List AV), a54 = AV.lst 1 els ∧ els.length * 8 ≤ reachBytes ∧ ∀ e56 ∈ els, ∃ (x58 : Int), e56 = [AV.v (.int .i64 x58)] ∧ (Lit.int .i64 x58).wf = true) ∧ (a60 = AV.nils ∨ ∃ els : List (List AV), a60 = AV.lst 1 els ∧ els.length * 8 ≤ reachBytes ∧ ∀ e62 ∈ els, ∃ (x64 : Int), e62 = [AV.v (.int .i64 x64)] ∧ (Lit.int .i64 x64).wf = true) ∧ x66 < 2 ^ 64 ∧ (Lit.int .i64 x68).wf = true ∧ (a73 = AV.nils ∨ ∃ els : List (List AV), a73 = AV.lst 1 els ∧ els.length * 8 ≤ reachBytes ∧ ∀ e75 ∈ els, ∃ (x77 : Int), e75 = [AV.v (.int .i64 x77)] ∧ (Lit.int .i64 x77).wf = true) ∧ (a82 = AV.nils ∨ ∃ els : List (List AV), a82 = AV.lst 1 els ∧ els.length * 8 ≤ reachBytes ∧ ∀ e84 ∈ els, ∃ (x86 : Int), e84 = [AV.v (.int .i64 x86)] ∧ (Lit.int .i64 x86).wf = true) ∧ (Lit.int .i64 x91).wf = true ∧ x96 < 2 ^ 64 ∧ x101 < 2 ^ 64 ∧ (Lit.int .i64 x106).wf = true := by
  replace h : FitsVs Try.prog 8 [25, 22, 22, 3, 23, 23, 3] avs := by rw [Try.params4] at h; exact h
  obtain ⟨a1, r2, rfl, h3, h⟩ := fitsVs_cons h
  obtain ⟨a4, r5, rfl, h6, h⟩ := fitsVs_cons h
  obtain ⟨a7, r8, rfl, h9, h⟩ := fitsVs_cons h
  obtain ⟨a10, r11, rfl, h12, h⟩ := fitsVs_cons h
  obtain ⟨a13, r14, rfl, h15, h⟩ := fitsVs_cons h
  obtain ⟨a16, r17, rfl, h18, h⟩ := fitsVs_cons h
  obtain ⟨a19, r20, rfl, h21, h⟩ := fitsVs_cons h
  obtain rfl := fitsVs_nil h
  obtain ⟨c22, rfl, h23⟩ := fitsV_struct Try.underlying25 h3
  obtain ⟨p24, rfl, h25⟩ := fits_struct (n := 7) Try.underlying25 h23
  replace h25 : FitsEach (Fits Try.prog 7) [3, 3, 22, 22, 23, 3] p24 := h25
  obtain ⟨p26, r27, rfl, h28, h29⟩ := fitsEach_cons h25
  obtain ⟨p30, r31, rfl, h32, h33⟩ := fitsEach_cons h29
  obtain ⟨p34, r35, rfl, h36, h37⟩ := fitsEach_cons h33
  obtain ⟨p38, r39, rfl, h40, h41⟩ := fitsEach_cons h37
  obtain ⟨p42, r43, rfl, h44, h45⟩ := fitsEach_cons h41
  obtain ⟨p46, r47, rfl, h48, h49⟩ := fitsEach_cons h45
  obtain rfl := fitsEach_nil h49
  obtain ⟨x50, rfl, w51⟩ := fits_int (n := 6) Try.underlying3 h28
  obtain ⟨x52, rfl, w53⟩ := fits_int (n := 6) Try.underlying3 h32
  obtain ⟨a54, rfl, w55⟩ : ∃ (a54 : AV), _ = [a54] ∧ (a54 = AV.nils ∨ ∃ els : List (List AV), a54 = AV.lst 1 els ∧ els.length * 8 ≤ reachBytes ∧ ∀ e56 ∈ els, ∃ (x58 : Int), e56 = [AV.v (.int .i64 x58)] ∧ (Lit.int .i64 x58).wf = true) := by
    rcases fits_slice (n := 6) Try.underlying22 h36 with hh | ⟨els, hh, h1, h2⟩
    · exact ⟨_, hh, .inl rfl⟩
    · refine ⟨_, hh, .inr ⟨els, ?_, ?_, fun e56 he => ?_⟩⟩
      · rw [show Try.prog.cellsOf 3 = 1 by kernel_rfl]
      · rw [show Try.prog.bytesOf 3 = 8 by kernel_rfl] at h1; exact h1
      · have h57 := h2 _ he
        obtain ⟨x58, rfl, w59⟩ := fits_int (n := 5) Try.underlying3 h57
        exact ⟨x58, rfl, w59⟩
  obtain ⟨a60, rfl, w61⟩ : ∃ (a60 : AV), _ = [a60] ∧ (a60 = AV.nils ∨ ∃ els : List (List AV), a60 = AV.lst 1 els ∧ els.length * 8 ≤ reachBytes ∧ ∀ e62 ∈ els, ∃ (x64 : Int), e62 = [AV.v (.int .i64 x64)] ∧ (Lit.int .i64 x64).wf = true) := by
    rcases fits_slice (n := 6) Try.underlying22 h40 with hh | ⟨els, hh, h1, h2⟩
    · exact ⟨_, hh, .inl rfl⟩
    · refine ⟨_, hh, .inr ⟨els, ?_, ?_, fun e62 he => ?_⟩⟩
      · rw [show Try.prog.cellsOf 3 = 1 by kernel_rfl]
      · rw [show Try.prog.bytesOf 3 = 8 by kernel_rfl] at h1; exact h1
      · have h63 := h2 _ he
        obtain ⟨x64, rfl, w65⟩ := fits_int (n := 5) Try.underlying3 h63
        exact ⟨x64, rfl, w65⟩
  obtain ⟨x66, rfl, w67⟩ := fits_flt (n := 6) Try.underlying23 h44
  obtain ⟨x68, rfl, w69⟩ := fits_int (n := 6) Try.underlying3 h48
  have h70 := fitsV_slice Try.underlying22 h6
  obtain ⟨c71, h72⟩ : ∃ c, c = [a4] := ⟨_, rfl⟩
  rw [← h72] at h70
  obtain ⟨a73, rfl, w74⟩ : ∃ (a73 : AV), _ = [a73] ∧ (a73 = AV.nils ∨ ∃ els : List (List AV), a73 = AV.lst 1 els ∧ els.length * 8 ≤ reachBytes ∧ ∀ e75 ∈ els, ∃ (x77 : Int), e75 = [AV.v (.int .i64 x77)] ∧ (Lit.int .i64 x77).wf = true) := by
    rcases fits_slice (n := 7) Try.underlying22 h70 with hh | ⟨els, hh, h1, h2⟩
    · exact ⟨_, hh, .inl rfl⟩
    · refine ⟨_, hh, .inr ⟨els, ?_, ?_, fun e75 he => ?_⟩⟩
      · rw [show Try.prog.cellsOf 3 = 1 by kernel_rfl]
      · rw [show Try.prog.bytesOf 3 = 8 by kernel_rfl] at h1; exact h1
      · have h76 := h2 _ he
        obtain ⟨x77, rfl, w78⟩ := fits_int (n := 6) Try.underlying3 h76
        exact ⟨x77, rfl, w78⟩
  obtain rfl := one_inj h72
  have h79 := fitsV_slice Try.underlying22 h9
  obtain ⟨c80, h81⟩ : ∃ c, c = [a7] := ⟨_, rfl⟩
  rw [← h81] at h79
  obtain ⟨a82, rfl, w83⟩ : ∃ (a82 : AV), _ = [a82] ∧ (a82 = AV.nils ∨ ∃ els : List (List AV), a82 = AV.lst 1 els ∧ els.length * 8 ≤ reachBytes ∧ ∀ e84 ∈ els, ∃ (x86 : Int), e84 = [AV.v (.int .i64 x86)] ∧ (Lit.int .i64 x86).wf = true) := by
    rcases fits_slice (n := 7) Try.underlying22 h79 with hh | ⟨els, hh, h1, h2⟩
    · exact ⟨_, hh, .inl rfl⟩
    · refine ⟨_, hh, .inr ⟨els, ?_, ?_, fun e84 he => ?_⟩⟩
      · rw [show Try.prog.cellsOf 3 = 1 by kernel_rfl]
      · rw [show Try.prog.bytesOf 3 = 8 by kernel_rfl] at h1; exact h1
      · have h85 := h2 _ he
        obtain ⟨x86, rfl, w87⟩ := fits_int (n := 6) Try.underlying3 h85
        exact ⟨x86, rfl, w87⟩
  obtain rfl := one_inj h81
  have h88 := fitsV_int Try.underlying3 h12
  obtain ⟨c89, h90⟩ : ∃ c, c = [a10] := ⟨_, rfl⟩
  rw [← h90] at h88
  obtain ⟨x91, rfl, w92⟩ := fits_int (n := 7) Try.underlying3 h88
  obtain rfl := one_inj h90
  have h93 := fitsV_flt Try.underlying23 h15
  obtain ⟨c94, h95⟩ : ∃ c, c = [a13] := ⟨_, rfl⟩
  rw [← h95] at h93
  obtain ⟨x96, rfl, w97⟩ := fits_flt (n := 7) Try.underlying23 h93
  obtain rfl := one_inj h95
  have h98 := fitsV_flt Try.underlying23 h18
  obtain ⟨c99, h100⟩ : ∃ c, c = [a16] := ⟨_, rfl⟩
  rw [← h100] at h98
  obtain ⟨x101, rfl, w102⟩ := fits_flt (n := 7) Try.underlying23 h98
  obtain rfl := one_inj h100
  have h103 := fitsV_int Try.underlying3 h21
  obtain ⟨c104, h105⟩ : ∃ c, c = [a19] := ⟨_, rfl⟩
  rw [← h105] at h103
  obtain ⟨x106, rfl, w107⟩ := fits_int (n := 7) Try.underlying3 h103
  obtain rfl := one_inj h105
  exact ⟨x50, x52, a54, a60, x66, x68, a73, a82, x91, x96, x101, x106, rfl, w51, w53, w55, w61, w67, w69, w74, w83, w92, w97, w102, w107⟩
theorem calls4 {avs : List AV} {W : World} {args : Array Value} (h : FitsVs Try.prog 8 Try.f4.params.toList avs) (hr : RelL (ρ0 fun _ => False) old0 W avs args.toList) :
    Calls Try.prog 4 args W fun e w' => e = .returned (.bool true) ∧ Below W.heap.size W w' := by
  obtain ⟨rate, delay, t1, e1, odd, att, pp, kk, nn, re, im, at1, rfl, _, _, h1, h2, _, _, h3, h4, _⟩ := fits4 h
  have key : ∀ {a : AV}, (a = AV.nils ∨ ∃ els : List (List AV), a = AV.lst 1 els ∧ els.length * 8 ≤ reachBytes ∧ ∀ e ∈ els, ∃ (x : Int), e = [AV.v (.int .i64 x)] ∧ (Lit.int .i64 x).wf = true) → ∃ xs : List Int, Wi1 a (.lst 1 (xs.map celI)) ∧ xs.length * 8 ≤ reachBytes := fun {a} h =>
    wi_of (f := celI) (z := 1) (B := 8) (h.imp id fun ⟨els, e1, e2, e3⟩ => ⟨els, e1, e2, fun e he => by
      obtain ⟨x, rfl, _⟩ := e3 e he
      exact ⟨x, rfl⟩⟩)
  obtain ⟨ts, w1, l1⟩ := key h1
  obtain ⟨es, w2, l2⟩ := key h2
  obtain ⟨ps, w3, l3⟩ := key h3
  obtain ⟨ks, w4, l4⟩ := key h4
  have hw : All2 WiA [AV.agg [AV.v (.int .i64 rate), AV.v (.int .i64 delay), t1, e1, AV.flt (canon odd), AV.v (.int .i64 att)], pp, kk, AV.v (.int .i64 nn), AV.flt (canon re), AV.flt (canon im), AV.v (.int .i64 at1)]
      [AV.agg [AV.v (.int .i64 rate), AV.v (.int .i64 delay), .lst 1 (ts.map celI), .lst 1 (es.map celI), AV.flt (canon odd), AV.v (.int .i64 att)], .lst 1 (ps.map celI), .lst 1 (ks.map celI), AV.v (.int .i64 nn), AV.flt (canon re), AV.flt (canon im), AV.v (.int .i64 at1)] :=
    ⟨.inl ⟨_, _, rfl, rfl, ⟨.inl rfl, .inl rfl, w1, w2, .inl rfl, .inl rfl, trivial⟩⟩, .inr w3, .inr w4, .refl _, .refl _, .refl _, .refl _, trivial⟩
  have hb : reachBytes = 140737488351232 := by kernel_rfl
  exact law (spec_yL (ps.length + ks.length + 200000 + 1)) (@law_passes (ps.length + ks.length + 200000) 0 rate delay att at1 nn ts es ps ks (canon odd) (canon re) (canon im) (by omega) (by omega) (by omega) (by omega) (Nat.le_refl _)) (relL_wi hw hr)
end Go.Proofs.Ytnphdnokedhhkaa.Fw
namespace Go.Proofs.Ytnphdnokedhhkaa
open Go.ChangeShapes Go.WideShapes Go.ChangeAt Go.RowKit Fw
theorem straitPasses_lifted (os : Os) (started : os.Started) (H : Type) (enc : TypeId × Value → H) :
    ReturnsInHanded {} Try.checked os 4 .any (Rows.straitPassesSpec.pre6 enc Try.prog Try.f4 Rows.straitPassesRow.domain false) (Rows.straitPassesSpec.post enc Try.prog Try.f4 false true false false) := by
  refine law_lifted (C := Try.checked) (n := 8) (tb := 4) own started (by kernel_rfl) Try.func4
    (ChangeSpec.witness6 (enc := enc) (C := Try.checked) false ⟨#[], #[.agg #[.int .i64 0, .int .i64 0, .slice none 0 0, .slice none 0 0, .float .f64 0, .int .i64 0], .slice none 0 0, .slice none 0 0, .int .i64 0, .float .f64 0, .float .f64 0, .int .i64 0], []⟩ 8 (by kernel_rfl) (by kernel_rfl) (by kernel_rfl) (by kernel_rfl))
    laidOut (by kernel_rfl) (by kernel_rfl) rfl ?_ rfl Try.underlying4 fun _ _ _ h hr => calls4 h hr
  intro ds hd
  have hd : ds.length = 7 := hd
  rcases ds with _ | ⟨a, _ | ⟨b, _ | ⟨c, _ | ⟨d, _ | ⟨e, _ | ⟨f, _ | ⟨g, _ | ⟨z, r⟩⟩⟩⟩⟩⟩⟩⟩ <;> simp at hd
  rfl
theorem straitPasses_holds : Rows.StraitPassesSaid :=
  OpenClaim.holds_of_wide 4 Try.f4 rfl rfl rfl rfl rfl rfl rfl ⟨rfl, rfl, rfl, rfl, rfl⟩ rfl rfl rfl rfl rfl (by kernel_rfl) Try.func4 (by kernel_rfl)
    (of_decide_eq_true (by kernel_rfl)) (by unfold Func.isWrapper; first | (rw [if_pos (by decide +kernel)]; kernel_rfl) | (rw [if_neg (by decide +kernel)]; exact ⟨rfl, rfl⟩))
    (fun os started H enc _ => straitPasses_lifted os started H enc)
end Go.Proofs.Ytnphdnokedhhkaa
