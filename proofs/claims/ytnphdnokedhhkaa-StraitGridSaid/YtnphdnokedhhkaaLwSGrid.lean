/- StraitGrid: any strait, any plain rows, any bursts: what comes through is on the grid; each sample may be; without disturbance and bursts none is lost, and they are what comes through. Conditions: none. -/
import Derived.Test.YtnphdnokedhhkaaLwM2
set_option maxRecDepth 100000
set_option maxHeartbeats 4000000
set_option linter.unusedSimpArgs false
set_option linter.unusedVariables false
namespace Go.Proofs.Ytnphdnokedhhkaa.Fw
open Go Go.RowKit
/-- what the law is handed -/
theorem fits10 {avs : List AV} (h : FitsVs Try.prog 8 Try.f10.params.toList avs) : ∃ (x44 : Int) (x46 : Int) (a48 : AV) (a54 : AV) (x60 : Nat) (x62 : Int) (a67 : AV) (a76 : AV) (a85 : AV) (x123 : Int), avs = [AV.agg [AV.v (.int .i64 x44), AV.v (.int .i64 x46), a48, a54, AV.flt (canon x60), AV.v (.int .i64 x62)], a67, a76, a85, AV.v (.int .i64 x123)] ∧ (Lit.int .i64 x44).wf = true ∧ (Lit.int .i64 x46).wf = true ∧ (a48 = AV.nils ∨ ∃ els : List (List AV), a48 = AV.lst 1 els ∧ els.length * 8 ≤ reachBytes ∧ ∀ e50 ∈ els, ∃ (x52 : Int), e50 = [AV.v (.int .i64 x52)] ∧ (Lit.int .i64 x52).wf = true) ∧ (a54 = AV.nils ∨ ∃ els : List (List AV), a54 = AV.lst 1 els ∧ els.length * 8 ≤ reachBytes ∧ ∀ e56 ∈ els, ∃ (x58 : Int), e56 = [AV.v (.int .i64 x58)] ∧ (Lit.int .i64 x58).wf = true) ∧ x60 < 2 ^ 64 ∧ (Lit.int .i64 x62).wf = true ∧ (a67 = AV.nils ∨ ∃ els : List (List AV), a67 = AV.lst 1 els ∧ els.length * 8 ≤ reachBytes ∧ ∀ e69 ∈ els, ∃ (x71 : Int), e69 = [AV.v (.int .i64 x71)] ∧ (Lit.int .i64 x71).wf = true) ∧ (a76 = AV.nils ∨ ∃ els : List (List AV), a76 = AV.lst 1 els ∧ els.length * 8 ≤ reachBytes ∧ ∀ e78 ∈ els, ∃ (x80 : Int), e78 = [AV.v (.int .i64 x80)] ∧ (Lit.int .i64 x80).wf = true) ∧ (a85 = AV.nils ∨ ∃ els : List (List AV), a85 = AV.lst 5 els ∧ els.length * 40 ≤ reachBytes ∧ ∀ e87 ∈ els, ∃ (x111 : Int) (x113 : Int) (x115 : Nat) (x117 : Nat) (x119 : Bool), e87 = [AV.v (.int .i64 x111), AV.v (.int .i64 x113), AV.flt (canon x115), AV.flt (canon x117), AV.v (.bool x119)] ∧ (Lit.int .i64 x111).wf = true ∧ (Lit.int .i64 x113).wf = true ∧ x115 < 2 ^ 64 ∧ x117 < 2 ^ 64) ∧ (Lit.int .i64 x123).wf = true := by
  replace h : FitsVs Try.prog 8 [25, 22, 22, 48, 3] avs := by rw [Try.params10] at h; exact h
  obtain ⟨a1, r2, rfl, h3, h⟩ := fitsVs_cons h
  obtain ⟨a4, r5, rfl, h6, h⟩ := fitsVs_cons h
  obtain ⟨a7, r8, rfl, h9, h⟩ := fitsVs_cons h
  obtain ⟨a10, r11, rfl, h12, h⟩ := fitsVs_cons h
  obtain ⟨a13, r14, rfl, h15, h⟩ := fitsVs_cons h
  obtain rfl := fitsVs_nil h
  obtain ⟨c16, rfl, h17⟩ := fitsV_struct Try.underlying25 h3
  obtain ⟨p18, rfl, h19⟩ := fits_struct (n := 7) Try.underlying25 h17
  replace h19 : FitsEach (Fits Try.prog 7) [3, 3, 22, 22, 23, 3] p18 := h19
  obtain ⟨p20, r21, rfl, h22, h23⟩ := fitsEach_cons h19
  obtain ⟨p24, r25, rfl, h26, h27⟩ := fitsEach_cons h23
  obtain ⟨p28, r29, rfl, h30, h31⟩ := fitsEach_cons h27
  obtain ⟨p32, r33, rfl, h34, h35⟩ := fitsEach_cons h31
  obtain ⟨p36, r37, rfl, h38, h39⟩ := fitsEach_cons h35
  obtain ⟨p40, r41, rfl, h42, h43⟩ := fitsEach_cons h39
  obtain rfl := fitsEach_nil h43
  obtain ⟨x44, rfl, w45⟩ := fits_int (n := 6) Try.underlying3 h22
  obtain ⟨x46, rfl, w47⟩ := fits_int (n := 6) Try.underlying3 h26
  obtain ⟨a48, rfl, w49⟩ : ∃ (a48 : AV), _ = [a48] ∧ (a48 = AV.nils ∨ ∃ els : List (List AV), a48 = AV.lst 1 els ∧ els.length * 8 ≤ reachBytes ∧ ∀ e50 ∈ els, ∃ (x52 : Int), e50 = [AV.v (.int .i64 x52)] ∧ (Lit.int .i64 x52).wf = true) := by
    rcases fits_slice (n := 6) Try.underlying22 h30 with hh | ⟨els, hh, h1, h2⟩
    · exact ⟨_, hh, .inl rfl⟩
    · refine ⟨_, hh, .inr ⟨els, ?_, ?_, fun e50 he => ?_⟩⟩
      · rw [show Try.prog.cellsOf 3 = 1 by kernel_rfl]
      · rw [show Try.prog.bytesOf 3 = 8 by kernel_rfl] at h1; exact h1
      · have h51 := h2 _ he
        obtain ⟨x52, rfl, w53⟩ := fits_int (n := 5) Try.underlying3 h51
        exact ⟨x52, rfl, w53⟩
  obtain ⟨a54, rfl, w55⟩ : ∃ (a54 : AV), _ = [a54] ∧ (a54 = AV.nils ∨ ∃ els : List (List AV), a54 = AV.lst 1 els ∧ els.length * 8 ≤ reachBytes ∧ ∀ e56 ∈ els, ∃ (x58 : Int), e56 = [AV.v (.int .i64 x58)] ∧ (Lit.int .i64 x58).wf = true) := by
    rcases fits_slice (n := 6) Try.underlying22 h34 with hh | ⟨els, hh, h1, h2⟩
    · exact ⟨_, hh, .inl rfl⟩
    · refine ⟨_, hh, .inr ⟨els, ?_, ?_, fun e56 he => ?_⟩⟩
      · rw [show Try.prog.cellsOf 3 = 1 by kernel_rfl]
      · rw [show Try.prog.bytesOf 3 = 8 by kernel_rfl] at h1; exact h1
      · have h57 := h2 _ he
        obtain ⟨x58, rfl, w59⟩ := fits_int (n := 5) Try.underlying3 h57
        exact ⟨x58, rfl, w59⟩
  obtain ⟨x60, rfl, w61⟩ := fits_flt (n := 6) Try.underlying23 h38
  obtain ⟨x62, rfl, w63⟩ := fits_int (n := 6) Try.underlying3 h42
  have h64 := fitsV_slice Try.underlying22 h6
  obtain ⟨c65, h66⟩ : ∃ c, c = [a4] := ⟨_, rfl⟩
  rw [← h66] at h64
  obtain ⟨a67, rfl, w68⟩ : ∃ (a67 : AV), _ = [a67] ∧ (a67 = AV.nils ∨ ∃ els : List (List AV), a67 = AV.lst 1 els ∧ els.length * 8 ≤ reachBytes ∧ ∀ e69 ∈ els, ∃ (x71 : Int), e69 = [AV.v (.int .i64 x71)] ∧ (Lit.int .i64 x71).wf = true) := by
    rcases fits_slice (n := 7) Try.underlying22 h64 with hh | ⟨els, hh, h1, h2⟩
    · exact ⟨_, hh, .inl rfl⟩
    · refine ⟨_, hh, .inr ⟨els, ?_, ?_, fun e69 he => ?_⟩⟩
      · rw [show Try.prog.cellsOf 3 = 1 by kernel_rfl]
      · rw [show Try.prog.bytesOf 3 = 8 by kernel_rfl] at h1; exact h1
      · have h70 := h2 _ he
        obtain ⟨x71, rfl, w72⟩ := fits_int (n := 6) Try.underlying3 h70
        exact ⟨x71, rfl, w72⟩
  obtain rfl := one_inj h66
  have h73 := fitsV_slice Try.underlying22 h9
  obtain ⟨c74, h75⟩ : ∃ c, c = [a7] := ⟨_, rfl⟩
  rw [← h75] at h73
  obtain ⟨a76, rfl, w77⟩ : ∃ (a76 : AV), _ = [a76] ∧ (a76 = AV.nils ∨ ∃ els : List (List AV), a76 = AV.lst 1 els ∧ els.length * 8 ≤ reachBytes ∧ ∀ e78 ∈ els, ∃ (x80 : Int), e78 = [AV.v (.int .i64 x80)] ∧ (Lit.int .i64 x80).wf = true) := by
    rcases fits_slice (n := 7) Try.underlying22 h73 with hh | ⟨els, hh, h1, h2⟩
    · exact ⟨_, hh, .inl rfl⟩
    · refine ⟨_, hh, .inr ⟨els, ?_, ?_, fun e78 he => ?_⟩⟩
      · rw [show Try.prog.cellsOf 3 = 1 by kernel_rfl]
      · rw [show Try.prog.bytesOf 3 = 8 by kernel_rfl] at h1; exact h1
      · have h79 := h2 _ he
        obtain ⟨x80, rfl, w81⟩ := fits_int (n := 6) Try.underlying3 h79
        exact ⟨x80, rfl, w81⟩
  obtain rfl := one_inj h75
  have h82 := fitsV_slice Try.underlying48 h12
  obtain ⟨c83, h84⟩ : ∃ c, c = [a10] := ⟨_, rfl⟩
  rw [← h84] at h82
  obtain ⟨a85, rfl, w86⟩ : ∃ (a85 : AV), _ = [a85] ∧ (a85 = AV.nils ∨ ∃ els : List (List AV), a85 = AV.lst 5 els ∧ els.length * 40 ≤ reachBytes ∧ ∀ e87 ∈ els, ∃ (x111 : Int) (x113 : Int) (x115 : Nat) (x117 : Nat) (x119 : Bool), e87 = [AV.v (.int .i64 x111), AV.v (.int .i64 x113), AV.flt (canon x115), AV.flt (canon x117), AV.v (.bool x119)] ∧ (Lit.int .i64 x111).wf = true ∧ (Lit.int .i64 x113).wf = true ∧ x115 < 2 ^ 64 ∧ x117 < 2 ^ 64) := by
    rcases fits_slice (n := 7) Try.underlying48 h82 with hh | ⟨els, hh, h1, h2⟩
    · exact ⟨_, hh, .inl rfl⟩
    · refine ⟨_, hh, .inr ⟨els, ?_, ?_, fun e87 he => ?_⟩⟩
      · rw [show Try.prog.cellsOf 60 = 5 by kernel_rfl]
      · rw [show Try.prog.bytesOf 60 = 40 by kernel_rfl] at h1; exact h1
      · have h88 := h2 _ he
        obtain ⟨p89, rfl, h90⟩ := fits_struct (n := 6) Try.underlying60 h88
        replace h90 : FitsEach (Fits Try.prog 6) [3, 3, 23, 23, 4] p89 := h90
        obtain ⟨p91, r92, rfl, h93, h94⟩ := fitsEach_cons h90
        obtain ⟨p95, r96, rfl, h97, h98⟩ := fitsEach_cons h94
        obtain ⟨p99, r100, rfl, h101, h102⟩ := fitsEach_cons h98
        obtain ⟨p103, r104, rfl, h105, h106⟩ := fitsEach_cons h102
        obtain ⟨p107, r108, rfl, h109, h110⟩ := fitsEach_cons h106
        obtain rfl := fitsEach_nil h110
        obtain ⟨x111, rfl, w112⟩ := fits_int (n := 5) Try.underlying3 h93
        obtain ⟨x113, rfl, w114⟩ := fits_int (n := 5) Try.underlying3 h97
        obtain ⟨x115, rfl, w116⟩ := fits_flt (n := 5) Try.underlying23 h101
        obtain ⟨x117, rfl, w118⟩ := fits_flt (n := 5) Try.underlying23 h105
        obtain ⟨x119, rfl⟩ := fits_bool (n := 5) Try.underlying4 h109
        exact ⟨x111, x113, x115, x117, x119, rfl, w112, w114, w116, w118⟩
  obtain rfl := one_inj h84
  have h120 := fitsV_int Try.underlying3 h15
  obtain ⟨c121, h122⟩ : ∃ c, c = [a13] := ⟨_, rfl⟩
  rw [← h122] at h120
  obtain ⟨x123, rfl, w124⟩ := fits_int (n := 7) Try.underlying3 h120
  obtain rfl := one_inj h122
  exact ⟨x44, x46, a48, a54, x60, x62, a67, a76, a85, x123, rfl, w45, w47, w49, w55, w61, w63, w68, w77, w86, w124⟩
theorem calls10 {avs : List AV} {W : World} {args : Array Value} (h : FitsVs Try.prog 8 Try.f10.params.toList avs) (hr : RelL (ρ0 fun _ => False) old0 W avs args.toList) :
    Calls Try.prog 10 args W fun e w' => e = .returned (.bool true) ∧ Below W.heap.size W w' := by
  obtain ⟨rate0, delay0, t0, e0, odd0, att0, p1, p2, b3, n4, rfl, _, _, ht0, he0, _, _, hp1, hp2, hb3, _⟩ := fits10 h
  have key : ∀ {a : AV}, (a = AV.nils ∨ ∃ els : List (List AV), a = AV.lst 1 els ∧ els.length * 8 ≤ reachBytes ∧ ∀ e ∈ els, ∃ (x : Int), e = [AV.v (.int .i64 x)] ∧ (Lit.int .i64 x).wf = true) → ∃ xs : List Int, Wi1 a (.lst 1 (xs.map celI)) ∧ xs.length * 8 ≤ reachBytes := fun {a} h =>
    wi_of (f := celI) (z := 1) (B := 8) (h.imp id fun ⟨els, e1, e2, e3⟩ => ⟨els, e1, e2, fun e he => by
      obtain ⟨x, rfl, _⟩ := e3 e he
      exact ⟨x, rfl⟩⟩)
  obtain ⟨ts0, wt0, lt0⟩ := key ht0
  obtain ⟨es0, we0, le0⟩ := key he0
  obtain ⟨ls1, wl1, ll1⟩ := key hp1
  obtain ⟨ls2, wl2, ll2⟩ := key hp2
  obtain ⟨bs3, wb3, lb3⟩ : ∃ bs : List Bu, Wi1 b3 (.lst 5 (bs.map celLb)) ∧ bs.length * 40 ≤ reachBytes :=
    wi_of (f := celLb) (z := 5) (B := 40) (hb3.imp id fun ⟨els, e1, e2, e3⟩ => ⟨els, e1, e2, fun e he => by
      obtain ⟨a, b, x, y, c, rfl, _⟩ := e3 e he
      exact ⟨((a, b), (canon x, canon y), c), rfl⟩⟩)
  have hw : All2 WiA [AV.agg [AV.v (.int .i64 rate0), AV.v (.int .i64 delay0), t0, e0, AV.flt (canon odd0), AV.v (.int .i64 att0)], p1, p2, b3, AV.v (.int .i64 n4)]
      [AV.agg [AV.v (.int .i64 rate0), AV.v (.int .i64 delay0), .lst 1 (ts0.map celI), .lst 1 (es0.map celI), AV.flt (canon odd0), AV.v (.int .i64 att0)], .lst 1 (ls1.map celI), .lst 1 (ls2.map celI), .lst 5 (bs3.map celLb), AV.v (.int .i64 n4)] :=
    ⟨.inl ⟨_, _, rfl, rfl, ⟨.inl rfl, .inl rfl, wt0, we0, .inl rfl, .inl rfl, trivial⟩⟩, .inr wl1, .inr wl2, .inr wb3, .refl _, trivial⟩
  have hb : reachBytes = 140737488351232 := by kernel_rfl
  exact law (spec_gL (bs3.length + 5000 + 1)) (@law_grid (bs3.length + 5000) 0 rate0 delay0 att0 n4 ts0 es0 ls1 ls2 bs3 (canon odd0) (by omega) (by omega) (by omega) (by omega) (by omega) (Nat.le_refl _)) (relL_wi hw hr)
end Go.Proofs.Ytnphdnokedhhkaa.Fw
namespace Go.Proofs.Ytnphdnokedhhkaa
open Go.ChangeShapes Go.WideShapes Go.ChangeAt Go.RowKit Fw
theorem straitGrid_lifted (os : Os) (started : os.Started) (H : Type) (enc : TypeId × Value → H) :
    ReturnsInHanded {} Try.checked os 10 .any (Rows.straitGridSpec.pre6 enc Try.prog Try.f10 Rows.straitGridRow.domain false) (Rows.straitGridSpec.post enc Try.prog Try.f10 false true false false) := by
  refine law_lifted (C := Try.checked) (n := 8) (tb := 4) own started (by kernel_rfl) Try.func10
    (ChangeSpec.witness6 (enc := enc) (C := Try.checked) false ⟨#[], #[.agg #[.int .i64 0, .int .i64 0, .slice none 0 0, .slice none 0 0, .float .f64 0, .int .i64 0], .slice none 0 0, .slice none 0 0, .slice none 0 0, .int .i64 0], []⟩ 8 (by kernel_rfl) (by kernel_rfl) (by kernel_rfl) (by kernel_rfl))
    laidOut (by kernel_rfl) (by kernel_rfl) rfl ?_ rfl Try.underlying4 fun _ _ _ h hr => calls10 h hr
  intro ds hd
  have hd : ds.length = 5 := hd
  rcases ds with _ | ⟨a, _ | ⟨b, _ | ⟨c, _ | ⟨d, _ | ⟨e, _ | ⟨z, r⟩⟩⟩⟩⟩⟩ <;> simp at hd
  rfl
theorem straitGrid_holds : Rows.StraitGridSaid :=
  OpenClaim.holds_of_wide 10 Try.f10 rfl rfl rfl rfl rfl rfl rfl ⟨rfl, rfl, rfl, rfl, rfl⟩ rfl rfl rfl rfl rfl (by kernel_rfl) Try.func10 (by kernel_rfl)
    (of_decide_eq_true (by kernel_rfl)) (by unfold Func.isWrapper; first | (rw [if_pos (by decide +kernel)]; kernel_rfl) | (rw [if_neg (by decide +kernel)]; exact ⟨rfl, rfl⟩))
    (fun os started H enc _ => straitGrid_lifted os started H enc)
end Go.Proofs.Ytnphdnokedhhkaa
