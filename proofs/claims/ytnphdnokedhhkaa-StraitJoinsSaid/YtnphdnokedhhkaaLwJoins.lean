/- StraitJoins: two straits, one behind the other: the program answers as chapter 10 says; new memory. Conditions: none. -/
import Derived.Test.YtnphdnokedhhkaaLwJnD
set_option maxRecDepth 100000
set_option maxHeartbeats 4000000
set_option linter.unusedSimpArgs false
set_option linter.unusedVariables false
namespace Go.Proofs.Ytnphdnokedhhkaa.Fw
open Go Go.RowKit
/-- what the law is handed -/
theorem fits3 {avs : List AV} (h : FitsVs Try.prog 8 Try.f3.params.toList avs) : ∃ (x35 : Int) (x37 : Int) (a39 : AV) (a45 : AV) (x51 : Nat) (x53 : Int) (x83 : Int) (x85 : Int) (a87 : AV) (a93 : AV) (x99 : Nat) (x101 : Int), avs = [AV.agg [AV.v (.int .i64 x35), AV.v (.int .i64 x37), a39, a45, AV.flt (canon x51), AV.v (.int .i64 x53)], AV.agg [AV.v (.int .i64 x83), AV.v (.int .i64 x85), a87, a93, AV.flt (canon x99), AV.v (.int .i64 x101)]] ∧ (Lit.int .i64 x35).wf = true ∧ (Lit.int .i64 x37).wf = true ∧ (a39 = AV.nils ∨ ∃ els : List (List AV), a39 = AV.lst 1 els ∧ els.length * 8 ≤ reachBytes ∧ ∀ e41 ∈ els, ∃ (x43 : Int), e41 = [AV.v (.int .i64 x43)] ∧ (Lit.int .i64 x43).wf = true) ∧ (a45 = AV.nils ∨ ∃ els : List (List AV), a45 = AV.lst 1 els ∧ els.length * 8 ≤ reachBytes ∧ ∀ e47 ∈ els, ∃ (x49 : Int), e47 = [AV.v (.int .i64 x49)] ∧ (Lit.int .i64 x49).wf = true) ∧ x51 < 2 ^ 64 ∧ (Lit.int .i64 x53).wf = true ∧ (Lit.int .i64 x83).wf = true ∧ (Lit.int .i64 x85).wf = true ∧ (a87 = AV.nils ∨ ∃ els : List (List AV), a87 = AV.lst 1 els ∧ els.length * 8 ≤ reachBytes ∧ ∀ e89 ∈ els, ∃ (x91 : Int), e89 = [AV.v (.int .i64 x91)] ∧ (Lit.int .i64 x91).wf = true) ∧ (a93 = AV.nils ∨ ∃ els : List (List AV), a93 = AV.lst 1 els ∧ els.length * 8 ≤ reachBytes ∧ ∀ e95 ∈ els, ∃ (x97 : Int), e95 = [AV.v (.int .i64 x97)] ∧ (Lit.int .i64 x97).wf = true) ∧ x99 < 2 ^ 64 ∧ (Lit.int .i64 x101).wf = true := by
  replace h : FitsVs Try.prog 8 [25, 25] avs := by rw [Try.params3] at h; exact h
  obtain ⟨a1, r2, rfl, h3, h⟩ := fitsVs_cons h
  obtain ⟨a4, r5, rfl, h6, h⟩ := fitsVs_cons h
  obtain rfl := fitsVs_nil h
  obtain ⟨c7, rfl, h8⟩ := fitsV_struct Try.underlying25 h3
  obtain ⟨p9, rfl, h10⟩ := fits_struct (n := 7) Try.underlying25 h8
  replace h10 : FitsEach (Fits Try.prog 7) [3, 3, 22, 22, 23, 3] p9 := h10
  obtain ⟨p11, r12, rfl, h13, h14⟩ := fitsEach_cons h10
  obtain ⟨p15, r16, rfl, h17, h18⟩ := fitsEach_cons h14
  obtain ⟨p19, r20, rfl, h21, h22⟩ := fitsEach_cons h18
  obtain ⟨p23, r24, rfl, h25, h26⟩ := fitsEach_cons h22
  obtain ⟨p27, r28, rfl, h29, h30⟩ := fitsEach_cons h26
  obtain ⟨p31, r32, rfl, h33, h34⟩ := fitsEach_cons h30
  obtain rfl := fitsEach_nil h34
  obtain ⟨x35, rfl, w36⟩ := fits_int (n := 6) Try.underlying3 h13
  obtain ⟨x37, rfl, w38⟩ := fits_int (n := 6) Try.underlying3 h17
  obtain ⟨a39, rfl, w40⟩ : ∃ (a39 : AV), _ = [a39] ∧ (a39 = AV.nils ∨ ∃ els : List (List AV), a39 = AV.lst 1 els ∧ els.length * 8 ≤ reachBytes ∧ ∀ e41 ∈ els, ∃ (x43 : Int), e41 = [AV.v (.int .i64 x43)] ∧ (Lit.int .i64 x43).wf = true) := by
    rcases fits_slice (n := 6) Try.underlying22 h21 with hh | ⟨els, hh, h1, h2⟩
    · exact ⟨_, hh, .inl rfl⟩
    · refine ⟨_, hh, .inr ⟨els, ?_, ?_, fun e41 he => ?_⟩⟩
      · rw [show Try.prog.cellsOf 3 = 1 by kernel_rfl]
      · rw [show Try.prog.bytesOf 3 = 8 by kernel_rfl] at h1; exact h1
      · have h42 := h2 _ he
        obtain ⟨x43, rfl, w44⟩ := fits_int (n := 5) Try.underlying3 h42
        exact ⟨x43, rfl, w44⟩
  obtain ⟨a45, rfl, w46⟩ : ∃ (a45 : AV), _ = [a45] ∧ (a45 = AV.nils ∨ ∃ els : List (List AV), a45 = AV.lst 1 els ∧ els.length * 8 ≤ reachBytes ∧ ∀ e47 ∈ els, ∃ (x49 : Int), e47 = [AV.v (.int .i64 x49)] ∧ (Lit.int .i64 x49).wf = true) := by
    rcases fits_slice (n := 6) Try.underlying22 h25 with hh | ⟨els, hh, h1, h2⟩
    · exact ⟨_, hh, .inl rfl⟩
    · refine ⟨_, hh, .inr ⟨els, ?_, ?_, fun e47 he => ?_⟩⟩
      · rw [show Try.prog.cellsOf 3 = 1 by kernel_rfl]
      · rw [show Try.prog.bytesOf 3 = 8 by kernel_rfl] at h1; exact h1
      · have h48 := h2 _ he
        obtain ⟨x49, rfl, w50⟩ := fits_int (n := 5) Try.underlying3 h48
        exact ⟨x49, rfl, w50⟩
  obtain ⟨x51, rfl, w52⟩ := fits_flt (n := 6) Try.underlying23 h29
  obtain ⟨x53, rfl, w54⟩ := fits_int (n := 6) Try.underlying3 h33
  obtain ⟨c55, rfl, h56⟩ := fitsV_struct Try.underlying25 h6
  obtain ⟨p57, rfl, h58⟩ := fits_struct (n := 7) Try.underlying25 h56
  replace h58 : FitsEach (Fits Try.prog 7) [3, 3, 22, 22, 23, 3] p57 := h58
  obtain ⟨p59, r60, rfl, h61, h62⟩ := fitsEach_cons h58
  obtain ⟨p63, r64, rfl, h65, h66⟩ := fitsEach_cons h62
  obtain ⟨p67, r68, rfl, h69, h70⟩ := fitsEach_cons h66
  obtain ⟨p71, r72, rfl, h73, h74⟩ := fitsEach_cons h70
  obtain ⟨p75, r76, rfl, h77, h78⟩ := fitsEach_cons h74
  obtain ⟨p79, r80, rfl, h81, h82⟩ := fitsEach_cons h78
  obtain rfl := fitsEach_nil h82
  obtain ⟨x83, rfl, w84⟩ := fits_int (n := 6) Try.underlying3 h61
  obtain ⟨x85, rfl, w86⟩ := fits_int (n := 6) Try.underlying3 h65
  obtain ⟨a87, rfl, w88⟩ : ∃ (a87 : AV), _ = [a87] ∧ (a87 = AV.nils ∨ ∃ els : List (List AV), a87 = AV.lst 1 els ∧ els.length * 8 ≤ reachBytes ∧ ∀ e89 ∈ els, ∃ (x91 : Int), e89 = [AV.v (.int .i64 x91)] ∧ (Lit.int .i64 x91).wf = true) := by
    rcases fits_slice (n := 6) Try.underlying22 h69 with hh | ⟨els, hh, h1, h2⟩
    · exact ⟨_, hh, .inl rfl⟩
    · refine ⟨_, hh, .inr ⟨els, ?_, ?_, fun e89 he => ?_⟩⟩
      · rw [show Try.prog.cellsOf 3 = 1 by kernel_rfl]
      · rw [show Try.prog.bytesOf 3 = 8 by kernel_rfl] at h1; exact h1
      · have h90 := h2 _ he
        obtain ⟨x91, rfl, w92⟩ := fits_int (n := 5) Try.underlying3 h90
        exact ⟨x91, rfl, w92⟩
  obtain ⟨a93, rfl, w94⟩ : ∃ (a93 : AV), _ = [a93] ∧ (a93 = AV.nils ∨ ∃ els : List (List AV), a93 = AV.lst 1 els ∧ els.length * 8 ≤ reachBytes ∧ ∀ e95 ∈ els, ∃ (x97 : Int), e95 = [AV.v (.int .i64 x97)] ∧ (Lit.int .i64 x97).wf = true) := by
    rcases fits_slice (n := 6) Try.underlying22 h73 with hh | ⟨els, hh, h1, h2⟩
    · exact ⟨_, hh, .inl rfl⟩
    · refine ⟨_, hh, .inr ⟨els, ?_, ?_, fun e95 he => ?_⟩⟩
      · rw [show Try.prog.cellsOf 3 = 1 by kernel_rfl]
      · rw [show Try.prog.bytesOf 3 = 8 by kernel_rfl] at h1; exact h1
      · have h96 := h2 _ he
        obtain ⟨x97, rfl, w98⟩ := fits_int (n := 5) Try.underlying3 h96
        exact ⟨x97, rfl, w98⟩
  obtain ⟨x99, rfl, w100⟩ := fits_flt (n := 6) Try.underlying23 h77
  obtain ⟨x101, rfl, w102⟩ := fits_int (n := 6) Try.underlying3 h81
  exact ⟨x35, x37, a39, a45, x51, x53, x83, x85, a87, a93, x99, x101, rfl, w36, w38, w40, w46, w52, w54, w84, w86, w88, w94, w100, w102⟩
theorem calls3 {avs : List AV} {W : World} {args : Array Value} (h : FitsVs Try.prog 8 Try.f3.params.toList avs) (hr : RelL (ρ0 fun _ => False) old0 W avs args.toList) :
    Calls Try.prog 3 args W fun e w' => e = .returned (.bool true) ∧ Below W.heap.size W w' := by
  obtain ⟨rate, delay, t1, e1, odd, att, rate2, delay2, t2, e2, odd2, att2, rfl, _, _, h1, h2, _, _, _, _, h3, h4, _⟩ := fits3 h
  have key : ∀ {a : AV}, (a = AV.nils ∨ ∃ els : List (List AV), a = AV.lst 1 els ∧ els.length * 8 ≤ reachBytes ∧ ∀ e ∈ els, ∃ (x : Int), e = [AV.v (.int .i64 x)] ∧ (Lit.int .i64 x).wf = true) → ∃ xs : List Int, Wi1 a (.lst 1 (xs.map celI)) ∧ xs.length * 8 ≤ reachBytes := fun {a} h =>
    wi_of (f := celI) (z := 1) (B := 8) (h.imp id fun ⟨els, e1, e2, e3⟩ => ⟨els, e1, e2, fun e he => by
      obtain ⟨x, rfl, _⟩ := e3 e he
      exact ⟨x, rfl⟩⟩)
  obtain ⟨ts, w1, l1⟩ := key h1
  obtain ⟨es, w2, l2⟩ := key h2
  obtain ⟨ts2, w3, l3⟩ := key h3
  obtain ⟨es2, w4, l4⟩ := key h4
  have hw : All2 WiA [AV.agg [AV.v (.int .i64 rate), AV.v (.int .i64 delay), t1, e1, AV.flt (canon odd), AV.v (.int .i64 att)], AV.agg [AV.v (.int .i64 rate2), AV.v (.int .i64 delay2), t2, e2, AV.flt (canon odd2), AV.v (.int .i64 att2)]]
      [AV.agg [AV.v (.int .i64 rate), AV.v (.int .i64 delay), .lst 1 (ts.map celI), .lst 1 (es.map celI), AV.flt (canon odd), AV.v (.int .i64 att)], AV.agg [AV.v (.int .i64 rate2), AV.v (.int .i64 delay2), .lst 1 (ts2.map celI), .lst 1 (es2.map celI), AV.flt (canon odd2), AV.v (.int .i64 att2)]] :=
    ⟨.inl ⟨_, _, rfl, rfl, ⟨.inl rfl, .inl rfl, w1, w2, .inl rfl, .inl rfl, trivial⟩⟩, .inl ⟨_, _, rfl, rfl, ⟨.inl rfl, .inl rfl, w3, w4, .inl rfl, .inl rfl, trivial⟩⟩, trivial⟩
  have hb : reachBytes = 140737488351232 := by kernel_rfl
  exact law (spec_kL (ts.length + es.length + ts2.length + es2.length + 70000 + 1)) (@law_joins (ts.length + es.length + ts2.length + es2.length + 70000) 0 rate delay att rate2 delay2 att2 ts es ts2 es2 (canon odd) (canon odd2) (by omega) (by omega) (by omega) (by omega) (by omega) (by omega) (by omega) (by omega) (by omega)) (relL_wi hw hr)
end Go.Proofs.Ytnphdnokedhhkaa.Fw
namespace Go.Proofs.Ytnphdnokedhhkaa
open Go.ChangeShapes Go.WideShapes Go.ChangeAt Go.RowKit Fw
theorem straitJoins_lifted (os : Os) (started : os.Started) (H : Type) (enc : TypeId × Value → H) :
    ReturnsInHanded {} Try.checked os 3 .any (Rows.straitJoinsSpec.pre6 enc Try.prog Try.f3 Rows.straitJoinsRow.domain false) (Rows.straitJoinsSpec.post enc Try.prog Try.f3 false true false false) := by
  refine law_lifted (C := Try.checked) (n := 8) (tb := 4) own started (by kernel_rfl) Try.func3
    (ChangeSpec.witness6 (enc := enc) (C := Try.checked) false ⟨#[], #[.agg #[.int .i64 0, .int .i64 0, .slice none 0 0, .slice none 0 0, .float .f64 0, .int .i64 0], .agg #[.int .i64 0, .int .i64 0, .slice none 0 0, .slice none 0 0, .float .f64 0, .int .i64 0]], []⟩ 8 (by kernel_rfl) (by kernel_rfl) (by kernel_rfl) (by kernel_rfl))
    laidOut (by kernel_rfl) (by kernel_rfl) rfl ?_ rfl Try.underlying4 fun _ _ _ h hr => calls3 h hr
  intro ds hd
  have hd : ds.length = 2 := hd
  rcases ds with _ | ⟨a, _ | ⟨b, _ | ⟨z, r⟩⟩⟩ <;> simp at hd
  rfl
theorem straitJoins_holds : Rows.StraitJoinsSaid :=
  OpenClaim.holds_of_wide 3 Try.f3 rfl rfl rfl rfl rfl rfl rfl ⟨rfl, rfl, rfl, rfl, rfl⟩ rfl rfl rfl rfl rfl (by kernel_rfl) Try.func3 (by kernel_rfl)
    (of_decide_eq_true (by kernel_rfl)) (by unfold Func.isWrapper; first | (rw [if_pos (by decide +kernel)]; kernel_rfl) | (rw [if_neg (by decide +kernel)]; exact ⟨rfl, rfl⟩))
    (fun os started H enc _ => straitJoins_lifted os started H enc)
end Go.Proofs.Ytnphdnokedhhkaa
