/- StraitTorn: any strait, row, bursts: samples that no burst hits are those that come without; one that some hit is as the last of these alone would leave it. Conditions: none. -/
import Derived.Test.YtnphdnokedhhkaaLwM3
set_option maxRecDepth 100000
set_option maxHeartbeats 4000000
set_option linter.unusedSimpArgs false
set_option linter.unusedVariables false
namespace Go.Proofs.Ytnphdnokedhhkaa.Fw
open Go Go.RowKit
/-- what the law is handed -/
theorem fits8 {avs : List AV} (h : FitsVs Try.prog 8 Try.f8.params.toList avs) : ∃ (x38 : Int) (x40 : Int) (a42 : AV) (a48 : AV) (x54 : Nat) (x56 : Int) (a61 : AV) (a70 : AV), avs = [AV.agg [AV.v (.int .i64 x38), AV.v (.int .i64 x40), a42, a48, AV.flt (canon x54), AV.v (.int .i64 x56)], a61, a70] ∧ (Lit.int .i64 x38).wf = true ∧ (Lit.int .i64 x40).wf = true ∧ (a42 = AV.nils ∨ ∃ els : List (List AV), a42 = AV.lst 1 els ∧ els.length * 8 ≤ reachBytes ∧ ∀ e44 ∈ els, ∃ (x46 : Int), e44 = [AV.v (.int .i64 x46)] ∧ (Lit.int .i64 x46).wf = true) ∧ (a48 = AV.nils ∨ ∃ els : List (List AV), a48 = AV.lst 1 els ∧ els.length * 8 ≤ reachBytes ∧ ∀ e50 ∈ els, ∃ (x52 : Int), e50 = [AV.v (.int .i64 x52)] ∧ (Lit.int .i64 x52).wf = true) ∧ x54 < 2 ^ 64 ∧ (Lit.int .i64 x56).wf = true ∧ (a61 = AV.nils ∨ ∃ els : List (List AV), a61 = AV.lst 1 els ∧ els.length * 8 ≤ reachBytes ∧ ∀ e63 ∈ els, ∃ (x65 : Int), e63 = [AV.v (.int .i64 x65)] ∧ (Lit.int .i64 x65).wf = true) ∧ (a70 = AV.nils ∨ ∃ els : List (List AV), a70 = AV.lst 5 els ∧ els.length * 40 ≤ reachBytes ∧ ∀ e72 ∈ els, ∃ (x96 : Int) (x98 : Int) (x100 : Nat) (x102 : Nat) (x104 : Bool), e72 = [AV.v (.int .i64 x96), AV.v (.int .i64 x98), AV.flt (canon x100), AV.flt (canon x102), AV.v (.bool x104)] ∧ (Lit.int .i64 x96).wf = true ∧ (Lit.int .i64 x98).wf = true ∧ x100 < 2 ^ 64 ∧ x102 < 2 ^ 64) := by
  replace h : FitsVs Try.prog 8 [25, 22, 48] avs := by rw [Try.params8] at h; exact h
  obtain ⟨a1, r2, rfl, h3, h⟩ := fitsVs_cons h
  obtain ⟨a4, r5, rfl, h6, h⟩ := fitsVs_cons h
  obtain ⟨a7, r8, rfl, h9, h⟩ := fitsVs_cons h
  obtain rfl := fitsVs_nil h
  obtain ⟨c10, rfl, h11⟩ := fitsV_struct Try.underlying25 h3
  obtain ⟨p12, rfl, h13⟩ := fits_struct (n := 7) Try.underlying25 h11
  replace h13 : FitsEach (Fits Try.prog 7) [3, 3, 22, 22, 23, 3] p12 := h13
  obtain ⟨p14, r15, rfl, h16, h17⟩ := fitsEach_cons h13
  obtain ⟨p18, r19, rfl, h20, h21⟩ := fitsEach_cons h17
  obtain ⟨p22, r23, rfl, h24, h25⟩ := fitsEach_cons h21
  obtain ⟨p26, r27, rfl, h28, h29⟩ := fitsEach_cons h25
  obtain ⟨p30, r31, rfl, h32, h33⟩ := fitsEach_cons h29
  obtain ⟨p34, r35, rfl, h36, h37⟩ := fitsEach_cons h33
  obtain rfl := fitsEach_nil h37
  obtain ⟨x38, rfl, w39⟩ := fits_int (n := 6) Try.underlying3 h16
  obtain ⟨x40, rfl, w41⟩ := fits_int (n := 6) Try.underlying3 h20
  obtain ⟨a42, rfl, w43⟩ : ∃ (a42 : AV), _ = [a42] ∧ (a42 = AV.nils ∨ ∃ els : List (List AV), a42 = AV.lst 1 els ∧ els.length * 8 ≤ reachBytes ∧ ∀ e44 ∈ els, ∃ (x46 : Int), e44 = [AV.v (.int .i64 x46)] ∧ (Lit.int .i64 x46).wf = true) := by
    rcases fits_slice (n := 6) Try.underlying22 h24 with hh | ⟨els, hh, h1, h2⟩
    · exact ⟨_, hh, .inl rfl⟩
    · refine ⟨_, hh, .inr ⟨els, ?_, ?_, fun e44 he => ?_⟩⟩
      · rw [show Try.prog.cellsOf 3 = 1 by kernel_rfl]
      · rw [show Try.prog.bytesOf 3 = 8 by kernel_rfl] at h1; exact h1
      · have h45 := h2 _ he
        obtain ⟨x46, rfl, w47⟩ := fits_int (n := 5) Try.underlying3 h45
        exact ⟨x46, rfl, w47⟩
  obtain ⟨a48, rfl, w49⟩ : ∃ (a48 : AV), _ = [a48] ∧ (a48 = AV.nils ∨ ∃ els : List (List AV), a48 = AV.lst 1 els ∧ els.length * 8 ≤ reachBytes ∧ ∀ e50 ∈ els, ∃ (x52 : Int), e50 = [AV.v (.int .i64 x52)] ∧ (Lit.int .i64 x52).wf = true) := by
    rcases fits_slice (n := 6) Try.underlying22 h28 with hh | ⟨els, hh, h1, h2⟩
    · exact ⟨_, hh, .inl rfl⟩
    · refine ⟨_, hh, .inr ⟨els, ?_, ?_, fun e50 he => ?_⟩⟩
      · rw [show Try.prog.cellsOf 3 = 1 by kernel_rfl]
      · rw [show Try.prog.bytesOf 3 = 8 by kernel_rfl] at h1; exact h1
      · have h51 := h2 _ he
        obtain ⟨x52, rfl, w53⟩ := fits_int (n := 5) Try.underlying3 h51
        exact ⟨x52, rfl, w53⟩
  obtain ⟨x54, rfl, w55⟩ := fits_flt (n := 6) Try.underlying23 h32
  obtain ⟨x56, rfl, w57⟩ := fits_int (n := 6) Try.underlying3 h36
  have h58 := fitsV_slice Try.underlying22 h6
  obtain ⟨c59, h60⟩ : ∃ c, c = [a4] := ⟨_, rfl⟩
  rw [← h60] at h58
  obtain ⟨a61, rfl, w62⟩ : ∃ (a61 : AV), _ = [a61] ∧ (a61 = AV.nils ∨ ∃ els : List (List AV), a61 = AV.lst 1 els ∧ els.length * 8 ≤ reachBytes ∧ ∀ e63 ∈ els, ∃ (x65 : Int), e63 = [AV.v (.int .i64 x65)] ∧ (Lit.int .i64 x65).wf = true) := by
    rcases fits_slice (n := 7) Try.underlying22 h58 with hh | ⟨els, hh, h1, h2⟩
    · exact ⟨_, hh, .inl rfl⟩
    · refine ⟨_, hh, .inr ⟨els, ?_, ?_, fun e63 he => ?_⟩⟩
      · rw [show Try.prog.cellsOf 3 = 1 by kernel_rfl]
      · rw [show Try.prog.bytesOf 3 = 8 by kernel_rfl] at h1; exact h1
      · have h64 := h2 _ he
        obtain ⟨x65, rfl, w66⟩ := fits_int (n := 6) Try.underlying3 h64
        exact ⟨x65, rfl, w66⟩
  obtain rfl := one_inj h60
  have h67 := fitsV_slice Try.underlying48 h9
  obtain ⟨c68, h69⟩ : ∃ c, c = [a7] := ⟨_, rfl⟩
  rw [← h69] at h67
  obtain ⟨a70, rfl, w71⟩ : ∃ (a70 : AV), _ = [a70] ∧ (a70 = AV.nils ∨ ∃ els : List (List AV), a70 = AV.lst 5 els ∧ els.length * 40 ≤ reachBytes ∧ ∀ e72 ∈ els, ∃ (x96 : Int) (x98 : Int) (x100 : Nat) (x102 : Nat) (x104 : Bool), e72 = [AV.v (.int .i64 x96), AV.v (.int .i64 x98), AV.flt (canon x100), AV.flt (canon x102), AV.v (.bool x104)] ∧ (Lit.int .i64 x96).wf = true ∧ (Lit.int .i64 x98).wf = true ∧ x100 < 2 ^ 64 ∧ x102 < 2 ^ 64) := by
    rcases fits_slice (n := 7) Try.underlying48 h67 with hh | ⟨els, hh, h1, h2⟩
    · exact ⟨_, hh, .inl rfl⟩
    · refine ⟨_, hh, .inr ⟨els, ?_, ?_, fun e72 he => ?_⟩⟩
      · rw [show Try.prog.cellsOf 60 = 5 by kernel_rfl]
      · rw [show Try.prog.bytesOf 60 = 40 by kernel_rfl] at h1; exact h1
      · have h73 := h2 _ he
        obtain ⟨p74, rfl, h75⟩ := fits_struct (n := 6) Try.underlying60 h73
        replace h75 : FitsEach (Fits Try.prog 6) [3, 3, 23, 23, 4] p74 := h75
        obtain ⟨p76, r77, rfl, h78, h79⟩ := fitsEach_cons h75
        obtain ⟨p80, r81, rfl, h82, h83⟩ := fitsEach_cons h79
        obtain ⟨p84, r85, rfl, h86, h87⟩ := fitsEach_cons h83
        obtain ⟨p88, r89, rfl, h90, h91⟩ := fitsEach_cons h87
        obtain ⟨p92, r93, rfl, h94, h95⟩ := fitsEach_cons h91
        obtain rfl := fitsEach_nil h95
        obtain ⟨x96, rfl, w97⟩ := fits_int (n := 5) Try.underlying3 h78
        obtain ⟨x98, rfl, w99⟩ := fits_int (n := 5) Try.underlying3 h82
        obtain ⟨x100, rfl, w101⟩ := fits_flt (n := 5) Try.underlying23 h86
        obtain ⟨x102, rfl, w103⟩ := fits_flt (n := 5) Try.underlying23 h90
        obtain ⟨x104, rfl⟩ := fits_bool (n := 5) Try.underlying4 h94
        exact ⟨x96, x98, x100, x102, x104, rfl, w97, w99, w101, w103⟩
  obtain rfl := one_inj h69
  exact ⟨x38, x40, a42, a48, x54, x56, a61, a70, rfl, w39, w41, w43, w49, w55, w57, w62, w71⟩
theorem calls8 {avs : List AV} {W : World} {args : Array Value} (h : FitsVs Try.prog 8 Try.f8.params.toList avs) (hr : RelL (ρ0 fun _ => False) old0 W avs args.toList) :
    Calls Try.prog 8 args W fun e w' => e = .returned (.bool true) ∧ Below W.heap.size W w' := by
  obtain ⟨rate0, delay0, t0, e0, odd0, att0, p1, b2, rfl, _, _, ht0, he0, _, _, hp1, hb2⟩ := fits8 h
  have key : ∀ {a : AV}, (a = AV.nils ∨ ∃ els : List (List AV), a = AV.lst 1 els ∧ els.length * 8 ≤ reachBytes ∧ ∀ e ∈ els, ∃ (x : Int), e = [AV.v (.int .i64 x)] ∧ (Lit.int .i64 x).wf = true) → ∃ xs : List Int, Wi1 a (.lst 1 (xs.map celI)) ∧ xs.length * 8 ≤ reachBytes := fun {a} h =>
    wi_of (f := celI) (z := 1) (B := 8) (h.imp id fun ⟨els, e1, e2, e3⟩ => ⟨els, e1, e2, fun e he => by
      obtain ⟨x, rfl, _⟩ := e3 e he
      exact ⟨x, rfl⟩⟩)
  obtain ⟨ts0, wt0, lt0⟩ := key ht0
  obtain ⟨es0, we0, le0⟩ := key he0
  obtain ⟨ls1, wl1, ll1⟩ := key hp1
  obtain ⟨bs2, wb2, lb2⟩ : ∃ bs : List Bu, Wi1 b2 (.lst 5 (bs.map celLb)) ∧ bs.length * 40 ≤ reachBytes :=
    wi_of (f := celLb) (z := 5) (B := 40) (hb2.imp id fun ⟨els, e1, e2, e3⟩ => ⟨els, e1, e2, fun e he => by
      obtain ⟨a, b, x, y, c, rfl, _⟩ := e3 e he
      exact ⟨((a, b), (canon x, canon y), c), rfl⟩⟩)
  have hw : All2 WiA [AV.agg [AV.v (.int .i64 rate0), AV.v (.int .i64 delay0), t0, e0, AV.flt (canon odd0), AV.v (.int .i64 att0)], p1, b2]
      [AV.agg [AV.v (.int .i64 rate0), AV.v (.int .i64 delay0), .lst 1 (ts0.map celI), .lst 1 (es0.map celI), AV.flt (canon odd0), AV.v (.int .i64 att0)], .lst 1 (ls1.map celI), .lst 5 (bs2.map celLb)] :=
    ⟨.inl ⟨_, _, rfl, rfl, ⟨.inl rfl, .inl rfl, wt0, we0, .inl rfl, .inl rfl, trivial⟩⟩, .inr wl1, .inr wb2, trivial⟩
  have hb : reachBytes = 140737488351232 := by kernel_rfl
  exact law (spec_gL 5001) (@law_torn 5000 0 rate0 delay0 att0 ts0 es0 ls1 bs2 (canon odd0) (by omega) (by omega) (by omega) (Nat.le_refl _)) (relL_wi hw hr)
end Go.Proofs.Ytnphdnokedhhkaa.Fw
namespace Go.Proofs.Ytnphdnokedhhkaa
open Go.ChangeShapes Go.WideShapes Go.ChangeAt Go.RowKit Fw
theorem straitTorn_lifted (os : Os) (started : os.Started) (H : Type) (enc : TypeId × Value → H) :
    ReturnsInHanded {} Try.checked os 8 .any (Rows.straitTornSpec.pre6 enc Try.prog Try.f8 Rows.straitTornRow.domain false) (Rows.straitTornSpec.post enc Try.prog Try.f8 false true false false) := by
  refine law_lifted (C := Try.checked) (n := 8) (tb := 4) own started (by kernel_rfl) Try.func8
    (ChangeSpec.witness6 (enc := enc) (C := Try.checked) false ⟨#[], #[.agg #[.int .i64 0, .int .i64 0, .slice none 0 0, .slice none 0 0, .float .f64 0, .int .i64 0], .slice none 0 0, .slice none 0 0], []⟩ 8 (by kernel_rfl) (by kernel_rfl) (by kernel_rfl) (by kernel_rfl))
    laidOut (by kernel_rfl) (by kernel_rfl) rfl ?_ rfl Try.underlying4 fun _ _ _ h hr => calls8 h hr
  intro ds hd
  have hd : ds.length = 3 := hd
  rcases ds with _ | ⟨a, _ | ⟨b, _ | ⟨c, _ | ⟨z, r⟩⟩⟩⟩ <;> simp at hd
  rfl
theorem straitTorn_holds : Rows.StraitTornSaid :=
  OpenClaim.holds_of_wide 8 Try.f8 rfl rfl rfl rfl rfl rfl rfl ⟨rfl, rfl, rfl, rfl, rfl⟩ rfl rfl rfl rfl rfl (by kernel_rfl) Try.func8 (by kernel_rfl)
    (of_decide_eq_true (by kernel_rfl)) (by unfold Func.isWrapper; first | (rw [if_pos (by decide +kernel)]; kernel_rfl) | (rw [if_neg (by decide +kernel)]; exact ⟨rfl, rfl⟩))
    (fun os started H enc _ => straitTorn_lifted os started H enc)
end Go.Proofs.Ytnphdnokedhhkaa
