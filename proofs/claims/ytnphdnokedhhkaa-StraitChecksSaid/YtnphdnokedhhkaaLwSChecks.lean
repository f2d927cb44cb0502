/- StraitChecks: any strait: whether it may be, its first tap; turned, halved: the program answers as chapter 10 says; new memory. Conditions: none. -/
import Derived.Test.YtnphdnokedhhkaaLwCcD
set_option maxRecDepth 100000
set_option maxHeartbeats 4000000
set_option linter.unusedSimpArgs false
set_option linter.unusedVariables false
namespace Go.Proofs.Ytnphdnokedhhkaa.Fw
open Go Go.RowKit
/-- what the law is handed -/
theorem fits5 {avs : List AV} (h : FitsVs Try.prog 8 Try.f5.params.toList avs) : ∃ (x35 : Int) (x37 : Int) (a39 : AV) (a45 : AV) (x51 : Nat) (x53 : Int) (x58 : Int), avs = [AV.agg [AV.v (.int .i64 x35), AV.v (.int .i64 x37), a39, a45, AV.flt (canon x51), AV.v (.int .i64 x53)], AV.v (.int .i64 x58)] ∧ (Lit.int .i64 x35).wf = true ∧ (Lit.int .i64 x37).wf = true ∧ (a39 = AV.nils ∨ ∃ els : List (List AV), a39 = AV.lst 1 els ∧ els.length * 8 ≤ reachBytes ∧ ∀ e41 ∈ els, ∃ (x43 : Int), e41 = [AV.v (.int .i64 x43)] ∧ (Lit.int .i64 x43).wf = true) ∧ (a45 = AV.nils ∨ ∃ els : List (List AV), a45 = AV.lst 1 els ∧ els.length * 8 ≤ reachBytes ∧ ∀ e47 ∈ els, ∃ (x49 : Int), e47 = [AV.v (.int .i64 x49)] ∧ (Lit.int .i64 x49).wf = true) ∧ x51 < 2 ^ 64 ∧ (Lit.int .i64 x53).wf = true ∧ (Lit.int .i64 x58).wf = true := by
  replace h : FitsVs Try.prog 8 [25, 3] avs := by rw [Try.params5] at h; exact h
  obtain ⟨a1, r2, rfl, h3, h⟩ := fitsVs_cons h
  obtain ⟨a4, r5, rfl, h6, h⟩ := fitsVs_cons h
  obtain rfl := fitsVs_nil h
  obtain ⟨c7, rfl, h8⟩ := fitsV_struct Try.underlying25 h3
  obtain ⟨p9, rfl, h10⟩ := fits_struct (n := 7) Try.underlying25 h8
  replace h10 : FitsEach (Fits Try.prog 7) [3, 3, 22, 22, 23, 3] p9 := h10
  obtain ⟨p11, r12, rfl, h13, h14⟩ := fitsEach_cons h10
  obtain ⟨p15, r16, rfl, h17, h18⟩ := fitsEach_cons h14
  obtain ⟨p19, r20, rfl, h21, h22⟩ := fitsEach_cons h18
  obtain ⟨p23, r24, rfl, h25, h26⟩ := fitsEach_cons h22
  obtain ⟨p27, r28, rfl, h29, h30⟩ := fitsEach_cons h26
  obtain ⟨p31, r32, rfl, h33, h34⟩ := fitsEach_cons h30
  obtain rfl := fitsEach_nil h34
  obtain ⟨x35, rfl, w36⟩ := fits_int (n := 6) Try.underlying3 h13
  obtain ⟨x37, rfl, w38⟩ := fits_int (n := 6) Try.underlying3 h17
  obtain ⟨a39, rfl, w40⟩ : ∃ (a39 : AV), _ = [a39] ∧ (a39 = AV.nils ∨ ∃ els : List (List AV), a39 = AV.lst 1 els ∧ els.length * 8 ≤ reachBytes ∧ ∀ e41 ∈ els, ∃ (x43 : Int), e41 = [AV.v (.int .i64 x43)] ∧ (Lit.int .i64 x43).wf = true) := by
    rcases fits_slice (n := 6) Try.underlying22 h21 with hh | ⟨els, hh, h1, h2⟩
    · exact ⟨_, hh, .inl rfl⟩
    · refine ⟨_, hh, .inr ⟨els, ?_, ?_, fun e41 he => ?_⟩⟩
      · rw [show Try.prog.cellsOf 3 = 1 by kernel_rfl]
      · rw [show Try.prog.bytesOf 3 = 8 by kernel_rfl] at h1; exact h1
      · have h42 := h2 _ he
        obtain ⟨x43, rfl, w44⟩ := fits_int (n := 5) Try.underlying3 h42
        exact ⟨x43, rfl, w44⟩
  obtain ⟨a45, rfl, w46⟩ : ∃ (a45 : AV), _ = [a45] ∧ (a45 = AV.nils ∨ ∃ els : List (List AV), a45 = AV.lst 1 els ∧ els.length * 8 ≤ reachBytes ∧ ∀ e47 ∈ els, ∃ (x49 : Int), e47 = [AV.v (.int .i64 x49)] ∧ (Lit.int .i64 x49).wf = true) := by
    rcases fits_slice (n := 6) Try.underlying22 h25 with hh | ⟨els, hh, h1, h2⟩
    · exact ⟨_, hh, .inl rfl⟩
    · refine ⟨_, hh, .inr ⟨els, ?_, ?_, fun e47 he => ?_⟩⟩
      · rw [show Try.prog.cellsOf 3 = 1 by kernel_rfl]
      · rw [show Try.prog.bytesOf 3 = 8 by kernel_rfl] at h1; exact h1
      · have h48 := h2 _ he
        obtain ⟨x49, rfl, w50⟩ := fits_int (n := 5) Try.underlying3 h48
        exact ⟨x49, rfl, w50⟩
  obtain ⟨x51, rfl, w52⟩ := fits_flt (n := 6) Try.underlying23 h29
  obtain ⟨x53, rfl, w54⟩ := fits_int (n := 6) Try.underlying3 h33
  have h55 := fitsV_int Try.underlying3 h6
  obtain ⟨c56, h57⟩ : ∃ c, c = [a4] := ⟨_, rfl⟩
  rw [← h57] at h55
  obtain ⟨x58, rfl, w59⟩ := fits_int (n := 7) Try.underlying3 h55
  obtain rfl := one_inj h57
  exact ⟨x35, x37, a39, a45, x51, x53, x58, rfl, w36, w38, w40, w46, w52, w54, w59⟩
theorem calls5 {avs : List AV} {W : World} {args : Array Value} (h : FitsVs Try.prog 8 Try.f5.params.toList avs) (hr : RelL (ρ0 fun _ => False) old0 W avs args.toList) :
    Calls Try.prog 5 args W fun e w' => e = .returned (.bool true) ∧ Below W.heap.size W w' := by
  obtain ⟨rate, delay, t1, e1, odd, att, k, rfl, _, _, h1, h2, _⟩ := fits5 h
  have key : ∀ {a : AV}, (a = AV.nils ∨ ∃ els : List (List AV), a = AV.lst 1 els ∧ els.length * 8 ≤ reachBytes ∧ ∀ e ∈ els, ∃ (x : Int), e = [AV.v (.int .i64 x)] ∧ (Lit.int .i64 x).wf = true) → ∃ xs : List Int, Wi1 a (.lst 1 (xs.map celI)) ∧ xs.length * 8 ≤ reachBytes := fun {a} h =>
    wi_of (f := celI) (z := 1) (B := 8) (h.imp id fun ⟨els, e1, e2, e3⟩ => ⟨els, e1, e2, fun e he => by
      obtain ⟨x, rfl, _⟩ := e3 e he
      exact ⟨x, rfl⟩⟩)
  obtain ⟨ts, w1, l1⟩ := key h1
  obtain ⟨es, w2, l2⟩ := key h2
  have hw : All2 WiA [AV.agg [AV.v (.int .i64 rate), AV.v (.int .i64 delay), t1, e1, AV.flt (canon odd), AV.v (.int .i64 att)], AV.v (.int .i64 k)]
      [AV.agg [AV.v (.int .i64 rate), AV.v (.int .i64 delay), .lst 1 (ts.map celI), .lst 1 (es.map celI), AV.flt (canon odd), AV.v (.int .i64 att)], AV.v (.int .i64 k)] :=
    ⟨.inl ⟨_, _, rfl, rfl, ⟨.inl rfl, .inl rfl, w1, w2, .inl rfl, .inl rfl, trivial⟩⟩, .refl _, trivial⟩
  have hb : reachBytes = 140737488351232 := by kernel_rfl
  exact law (spec_sL (70000 + 1)) (@law_checks 70000 0 rate delay att k ts es (canon odd) (by omega) (by omega) (by omega)) (relL_wi hw hr)
end Go.Proofs.Ytnphdnokedhhkaa.Fw
namespace Go.Proofs.Ytnphdnokedhhkaa
open Go.ChangeShapes Go.WideShapes Go.ChangeAt Go.RowKit Fw
theorem straitChecks_lifted (os : Os) (started : os.Started) (H : Type) (enc : TypeId × Value → H) :
    ReturnsInHanded {} Try.checked os 5 .any (Rows.straitChecksSpec.pre6 enc Try.prog Try.f5 Rows.straitChecksRow.domain false) (Rows.straitChecksSpec.post enc Try.prog Try.f5 false true false false) := by
  refine law_lifted (C := Try.checked) (n := 8) (tb := 4) own started (by kernel_rfl) Try.func5
    (ChangeSpec.witness6 (enc := enc) (C := Try.checked) false ⟨#[], #[.agg #[.int .i64 0, .int .i64 0, .slice none 0 0, .slice none 0 0, .float .f64 0, .int .i64 0], .int .i64 0], []⟩ 8 (by kernel_rfl) (by kernel_rfl) (by kernel_rfl) (by kernel_rfl))
    laidOut (by kernel_rfl) (by kernel_rfl) rfl ?_ rfl Try.underlying4 fun _ _ _ h hr => calls5 h hr
  intro ds hd
  have hd : ds.length = 2 := hd
  rcases ds with _ | ⟨a, _ | ⟨b, _ | ⟨z, r⟩⟩⟩ <;> simp at hd
  rfl
theorem straitChecks_holds : Rows.StraitChecksSaid :=
  OpenClaim.holds_of_wide 5 Try.f5 rfl rfl rfl rfl rfl rfl rfl ⟨rfl, rfl, rfl, rfl, rfl⟩ rfl rfl rfl rfl rfl (by kernel_rfl) Try.func5 (by kernel_rfl)
    (of_decide_eq_true (by kernel_rfl)) (by unfold Func.isWrapper; first | (rw [if_pos (by decide +kernel)]; kernel_rfl) | (rw [if_neg (by decide +kernel)]; exact ⟨rfl, rfl⟩))
    (fun os started H enc _ => straitChecks_lifted os started H enc)
end Go.Proofs.Ytnphdnokedhhkaa
