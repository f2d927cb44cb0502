/- StraitArrives: any strait, rows, disturbance, bursts, length: the samples that arrive are those that chapter 10 says; new memory. Conditions: none. -/
import Derived.Test.YtnphdnokedhhkaaLwM3
set_option maxRecDepth 100000
set_option maxHeartbeats 4000000
set_option linter.unusedSimpArgs false
set_option linter.unusedVariables false
namespace Go.Proofs.Ytnphdnokedhhkaa.Fw
open Go Go.RowKit
/-- what the law is handed -/
theorem fits6 {avs : List AV} (h : FitsVs Try.prog 8 Try.f6.params.toList avs) : ∃ (x56 : Int) (x58 : Int) (a60 : AV) (a66 : AV) (x72 : Nat) (x74 : Int) (a79 : AV) (a88 : AV) (a97 : AV) (a106 : AV) (x144 : Int) (x149 : Nat) (x154 : Nat) (x159 : Int), avs = [AV.agg [AV.v (.int .i64 x56), AV.v (.int .i64 x58), a60, a66, AV.flt (canon x72), AV.v (.int .i64 x74)], a79, a88, a97, a106, AV.v (.int .i64 x144), AV.flt (canon x149), AV.flt (canon x154), AV.v (.int .i64 x159)] ∧ (Lit.int .i64 x56).wf = true ∧ (Lit.int .i64 x58).wf = true ∧ (a60 = AV.nils ∨ ∃ els : List (List AV), a60 = AV.lst 1 els ∧ els.length * 8 ≤ reachBytes ∧ ∀ e62 ∈ els, ∃ (x64 : Int), e62 = [AV.v (.int .i64 x64)] ∧ (Lit.int .i64 x64).wf = true) ∧ (a66 = AV.nils ∨ ∃ els : List (List AV), a66 = AV.lst 1 els ∧ els.length * 8 ≤ reachBytes ∧ ∀ e68 ∈ els, ∃ (x70 : Int), e68 = [AV.v (.int .i64 x70)] ∧ (Lit.int .i64 x70).wf = true) ∧ x72 < 2 ^ 64 ∧ (Lit.int .i64 x74).wf = true ∧ (a79 = AV.nils ∨ ∃ els : List (List AV), a79 = AV.lst 1 els ∧ els.length * 8 ≤ reachBytes ∧ ∀ e81 ∈ els, ∃ (x83 : Int), e81 = [AV.v (.int .i64 x83)] ∧ (Lit.int .i64 x83).wf = true) ∧ (a88 = AV.nils ∨ ∃ els : List (List AV), a88 = AV.lst 1 els ∧ els.length * 8 ≤ reachBytes ∧ ∀ e90 ∈ els, ∃ (x92 : Int), e90 = [AV.v (.int .i64 x92)] ∧ (Lit.int .i64 x92).wf = true) ∧ (a97 = AV.nils ∨ ∃ els : List (List AV), a97 = AV.lst 1 els ∧ els.length * 8 ≤ reachBytes ∧ ∀ e99 ∈ els, ∃ (x101 : Int), e99 = [AV.v (.int .i64 x101)] ∧ (Lit.int .i64 x101).wf = true) ∧ (a106 = AV.nils ∨ ∃ els : List (List AV), a106 = AV.lst 5 els ∧ els.length * 40 ≤ reachBytes ∧ ∀ e108 ∈ els, ∃ (x132 : Int) (x134 : Int) (x136 : Nat) (x138 : Nat) (x140 : Bool), e108 = [AV.v (.int .i64 x132), AV.v (.int .i64 x134), AV.flt (canon x136), AV.flt (canon x138), AV.v (.bool x140)] ∧ (Lit.int .i64 x132).wf = true ∧ (Lit.int .i64 x134).wf = true ∧ x136 < 2 ^ 64 ∧ x138 < 2 ^ 64) ∧ (Lit.int .i64 x144).wf = true ∧ x149 < 2 ^ 64 ∧ x154 < 2 ^ 64 ∧ (Lit.int .i64 x159).wf = true := by
  replace h : FitsVs Try.prog 8 [25, 22, 22, 22, 48, 3, 23, 23, 3] avs := by rw [Try.params6] at h; exact h
  obtain ⟨a1, r2, rfl, h3, h⟩ := fitsVs_cons h
  obtain ⟨a4, r5, rfl, h6, h⟩ := fitsVs_cons h
  obtain ⟨a7, r8, rfl, h9, h⟩ := fitsVs_cons h
  obtain ⟨a10, r11, rfl, h12, h⟩ := fitsVs_cons h
  obtain ⟨a13, r14, rfl, h15, h⟩ := fitsVs_cons h
  obtain ⟨a16, r17, rfl, h18, h⟩ := fitsVs_cons h
  obtain ⟨a19, r20, rfl, h21, h⟩ := fitsVs_cons h
  obtain ⟨a22, r23, rfl, h24, h⟩ := fitsVs_cons h
  obtain ⟨a25, r26, rfl, h27, h⟩ := fitsVs_cons h
  obtain rfl := fitsVs_nil h
  obtain ⟨c28, rfl, h29⟩ := fitsV_struct Try.underlying25 h3
  obtain ⟨p30, rfl, h31⟩ := fits_struct (n := 7) Try.underlying25 h29
  replace h31 : FitsEach (Fits Try.prog 7) [3, 3, 22, 22, 23, 3] p30 := h31
  obtain ⟨p32, r33, rfl, h34, h35⟩ := fitsEach_cons h31
  obtain ⟨p36, r37, rfl, h38, h39⟩ := fitsEach_cons h35
  obtain ⟨p40, r41, rfl, h42, h43⟩ := fitsEach_cons h39
  obtain ⟨p44, r45, rfl, h46, h47⟩ := fitsEach_cons h43
  obtain ⟨p48, r49, rfl, h50, h51⟩ := fitsEach_cons h47
  obtain ⟨p52, r53, rfl, h54, h55⟩ := fitsEach_cons h51
  obtain rfl := fitsEach_nil h55
  obtain ⟨x56, rfl, w57⟩ := fits_int (n := 6) Try.underlying3 h34
  obtain ⟨x58, rfl, w59⟩ := fits_int (n := 6) Try.underlying3 h38
  obtain ⟨a60, rfl, w61⟩ : ∃ (a60 : AV), _ = [a60] ∧ (a60 = AV.nils ∨ ∃ els : List (List AV), a60 = AV.lst 1 els ∧ els.length * 8 ≤ reachBytes ∧ ∀ e62 ∈ els, ∃ (x64 : Int), e62 = [AV.v (.int .i64 x64)] ∧ (Lit.int .i64 x64).wf = true) := by
    rcases fits_slice (n := 6) Try.underlying22 h42 with hh | ⟨els, hh, h1, h2⟩
    · exact ⟨_, hh, .inl rfl⟩
    · refine ⟨_, hh, .inr ⟨els, ?_, ?_, fun e62 he => ?_⟩⟩
      · rw [show Try.prog.cellsOf 3 = 1 by kernel_rfl]
      · rw [show Try.prog.bytesOf 3 = 8 by kernel_rfl] at h1; exact h1
      · have h63 := h2 _ he
        obtain ⟨x64, rfl, w65⟩ := fits_int (n := 5) Try.underlying3 h63
        exact ⟨x64, rfl, w65⟩
  obtain ⟨a66, rfl, w67⟩ : ∃ (a66 : AV), _ = [a66] ∧ (a66 = AV.nils ∨ ∃ els : List (List AV), a66 = AV.lst 1 els ∧ els.length * 8 ≤ reachBytes ∧ ∀ e68 ∈ els, ∃ (x70 : Int), e68 = [AV.v (.int .i64 x70)] ∧ (Lit.int .i64 x70).wf = true) := by
    rcases fits_slice (n := 6) Try.underlying22 h46 with hh | ⟨els, hh, h1, h2⟩
    · exact ⟨_, hh, .inl rfl⟩
    · refine ⟨_, hh, .inr ⟨els, ?_, ?_, fun e68 he => ?_⟩⟩
      · rw [show Try.prog.cellsOf 3 = 1 by kernel_rfl]
      · rw [show Try.prog.bytesOf 3 = 8 by kernel_rfl] at h1; exact h1
      · have h69 := h2 _ he
        obtain ⟨x70, rfl, w71⟩ := fits_int (n := 5) Try.underlying3 h69
        exact ⟨x70, rfl, w71⟩
  obtain ⟨x72, rfl, w73⟩ := fits_flt (n := 6) Try.underlying23 h50
  obtain ⟨x74, rfl, w75⟩ := fits_int (n := 6) Try.underlying3 h54
  have h76 := fitsV_slice Try.underlying22 h6
  obtain ⟨c77, h78⟩ : ∃ c, c = [a4] := ⟨_, rfl⟩
  rw [← h78] at h76
  obtain ⟨a79, rfl, w80⟩ : ∃ (a79 : AV), _ = [a79] ∧ (a79 = AV.nils ∨ ∃ els : List (List AV), a79 = AV.lst 1 els ∧ els.length * 8 ≤ reachBytes ∧ ∀ e81 ∈ els, ∃ (x83 : Int), e81 = [AV.v (.int .i64 x83)] ∧ (Lit.int .i64 x83).wf = true) := by
    rcases fits_slice (n := 7) Try.underlying22 h76 with hh | ⟨els, hh, h1, h2⟩
    · exact ⟨_, hh, .inl rfl⟩
    · refine ⟨_, hh, .inr ⟨els, ?_, ?_, fun e81 he => ?_⟩⟩
      · rw [show Try.prog.cellsOf 3 = 1 by kernel_rfl]
      · rw [show Try.prog.bytesOf 3 = 8 by kernel_rfl] at h1; exact h1
      · have h82 := h2 _ he
        obtain ⟨x83, rfl, w84⟩ := fits_int (n := 6) Try.underlying3 h82
        exact ⟨x83, rfl, w84⟩
  obtain rfl := one_inj h78
  have h85 := fitsV_slice Try.underlying22 h9
  obtain ⟨c86, h87⟩ : ∃ c, c = [a7] := ⟨_, rfl⟩
  rw [← h87] at h85
  obtain ⟨a88, rfl, w89⟩ : ∃ (a88 : AV), _ = [a88] ∧ (a88 = AV.nils ∨ ∃ els : List (List AV), a88 = AV.lst 1 els ∧ els.length * 8 ≤ reachBytes ∧ ∀ e90 ∈ els, ∃ (x92 : Int), e90 = [AV.v (.int .i64 x92)] ∧ (Lit.int .i64 x92).wf = true) := by
    rcases fits_slice (n := 7) Try.underlying22 h85 with hh | ⟨els, hh, h1, h2⟩
    · exact ⟨_, hh, .inl rfl⟩
    · refine ⟨_, hh, .inr ⟨els, ?_, ?_, fun e90 he => ?_⟩⟩
      · rw [show Try.prog.cellsOf 3 = 1 by kernel_rfl]
      · rw [show Try.prog.bytesOf 3 = 8 by kernel_rfl] at h1; exact h1
      · have h91 := h2 _ he
        obtain ⟨x92, rfl, w93⟩ := fits_int (n := 6) Try.underlying3 h91
        exact ⟨x92, rfl, w93⟩
  obtain rfl := one_inj h87
  have h94 := fitsV_slice Try.underlying22 h12
  obtain ⟨c95, h96⟩ : ∃ c, c = [a10] := ⟨_, rfl⟩
  rw [← h96] at h94
  obtain ⟨a97, rfl, w98⟩ : ∃ (a97 : AV), _ = [a97] ∧ (a97 = AV.nils ∨ ∃ els : List (List AV), a97 = AV.lst 1 els ∧ els.length * 8 ≤ reachBytes ∧ ∀ e99 ∈ els, ∃ (x101 : Int), e99 = [AV.v (.int .i64 x101)] ∧ (Lit.int .i64 x101).wf = true) := by
    rcases fits_slice (n := 7) Try.underlying22 h94 with hh | ⟨els, hh, h1, h2⟩
    · exact ⟨_, hh, .inl rfl⟩
    · refine ⟨_, hh, .inr ⟨els, ?_, ?_, fun e99 he => ?_⟩⟩
      · rw [show Try.prog.cellsOf 3 = 1 by kernel_rfl]
      · rw [show Try.prog.bytesOf 3 = 8 by kernel_rfl] at h1; exact h1
      · have h100 := h2 _ he
        obtain ⟨x101, rfl, w102⟩ := fits_int (n := 6) Try.underlying3 h100
        exact ⟨x101, rfl, w102⟩
  obtain rfl := one_inj h96
  have h103 := fitsV_slice Try.underlying48 h15
  obtain ⟨c104, h105⟩ : ∃ c, c = [a13] := ⟨_, rfl⟩
  rw [← h105] at h103
  obtain ⟨a106, rfl, w107⟩ : ∃ (a106 : AV), _ = [a106] ∧ (a106 = AV.nils ∨ ∃ els : List (List AV), a106 = AV.lst 5 els ∧ els.length * 40 ≤ reachBytes ∧ ∀ e108 ∈ els, ∃ (x132 : Int) (x134 : Int) (x136 : Nat) (x138 : Nat) (x140 : Bool), e108 = [AV.v (.int .i64 x132), AV.v (.int .i64 x134), AV.flt (canon x136), AV.flt (canon x138), AV.v (.bool x140)] ∧ (Lit.int .i64 x132).wf = true ∧ (Lit.int .i64 x134).wf = true ∧ x136 < 2 ^ 64 ∧ x138 < 2 ^ 64) := by
    rcases fits_slice (n := 7) Try.underlying48 h103 with hh | ⟨els, hh, h1, h2⟩
    · exact ⟨_, hh, .inl rfl⟩
    · refine ⟨_, hh, .inr ⟨els, ?_, ?_, fun e108 he => ?_⟩⟩
      · rw [show Try.prog.cellsOf 60 = 5 by kernel_rfl]
      · rw [show Try.prog.bytesOf 60 = 40 by kernel_rfl] at h1; exact h1
      · have h109 := h2 _ he
        obtain ⟨p110, rfl, h111⟩ := fits_struct (n := 6) Try.underlying60 h109
        replace h111 : FitsEach (Fits Try.prog 6) [3, 3, 23, 23, 4] p110 := h111
        obtain ⟨p112, r113, rfl, h114, h115⟩ := fitsEach_cons h111
        obtain ⟨p116, r117, rfl, h118, h119⟩ := fitsEach_cons h115
        obtain ⟨p120, r121, rfl, h122, h123⟩ := fitsEach_cons h119
        obtain ⟨p124, r125, rfl, h126, h127⟩ := fitsEach_cons h123
        obtain ⟨p128, r129, rfl, h130, h131⟩ := fitsEach_cons h127
        obtain rfl := fitsEach_nil h131
        obtain ⟨x132, rfl, w133⟩ := fits_int (n := 5) Try.underlying3 h114
        obtain ⟨x134, rfl, w135⟩ := fits_int (n := 5) Try.underlying3 h118
        obtain ⟨x136, rfl, w137⟩ := fits_flt (n := 5) Try.underlying23 h122
        obtain ⟨x138, rfl, w139⟩ := fits_flt (n := 5) Try.underlying23 h126
        obtain ⟨x140, rfl⟩ := fits_bool (n := 5) Try.underlying4 h130
        exact ⟨x132, x134, x136, x138, x140, rfl, w133, w135, w137, w139⟩
  obtain rfl := one_inj h105
  have h141 := fitsV_int Try.underlying3 h18
  obtain ⟨c142, h143⟩ : ∃ c, c = [a16] := ⟨_, rfl⟩
  rw [← h143] at h141
  obtain ⟨x144, rfl, w145⟩ := fits_int (n := 7) Try.underlying3 h141
  obtain rfl := one_inj h143
  have h146 := fitsV_flt Try.underlying23 h21
  obtain ⟨c147, h148⟩ : ∃ c, c = [a19] := ⟨_, rfl⟩
  rw [← h148] at h146
  obtain ⟨x149, rfl, w150⟩ := fits_flt (n := 7) Try.underlying23 h146
  obtain rfl := one_inj h148
  have h151 := fitsV_flt Try.underlying23 h24
  obtain ⟨c152, h153⟩ : ∃ c, c = [a22] := ⟨_, rfl⟩
  rw [← h153] at h151
  obtain ⟨x154, rfl, w155⟩ := fits_flt (n := 7) Try.underlying23 h151
  obtain rfl := one_inj h153
  have h156 := fitsV_int Try.underlying3 h27
  obtain ⟨c157, h158⟩ : ∃ c, c = [a25] := ⟨_, rfl⟩
  rw [← h158] at h156
  obtain ⟨x159, rfl, w160⟩ := fits_int (n := 7) Try.underlying3 h156
  obtain rfl := one_inj h158
  exact ⟨x56, x58, a60, a66, x72, x74, a79, a88, a97, a106, x144, x149, x154, x159, rfl, w57, w59, w61, w67, w73, w75, w80, w89, w98, w107, w145, w150, w155, w160⟩
theorem calls6 {avs : List AV} {W : World} {args : Array Value} (h : FitsVs Try.prog 8 Try.f6.params.toList avs) (hr : RelL (ρ0 fun _ => False) old0 W avs args.toList) :
    Calls Try.prog 6 args W fun e w' => e = .returned (.bool true) ∧ Below W.heap.size W w' := by
  obtain ⟨rate, delay, t1, e1, odd, att, pp, kk, qq, bb, nn, re, im, at1, rfl, _, _, h1, h2, _, _, h3, h4, h5, h6, _⟩ := fits6 h
  have key : ∀ {a : AV}, (a = AV.nils ∨ ∃ els : List (List AV), a = AV.lst 1 els ∧ els.length * 8 ≤ reachBytes ∧ ∀ e ∈ els, ∃ (x : Int), e = [AV.v (.int .i64 x)] ∧ (Lit.int .i64 x).wf = true) → ∃ xs : List Int, Wi1 a (.lst 1 (xs.map celI)) ∧ xs.length * 8 ≤ reachBytes := fun {a} h =>
    wi_of (f := celI) (z := 1) (B := 8) (h.imp id fun ⟨els, e1, e2, e3⟩ => ⟨els, e1, e2, fun e he => by
      obtain ⟨x, rfl, _⟩ := e3 e he
      exact ⟨x, rfl⟩⟩)
  obtain ⟨ts, w1, l1⟩ := key h1
  obtain ⟨es, w2, l2⟩ := key h2
  obtain ⟨ps, w3, l3⟩ := key h3
  obtain ⟨ks, w4, l4⟩ := key h4
  obtain ⟨qs, w5, l5⟩ := key h5
  obtain ⟨bs, w6, l6⟩ : ∃ bs : List Bu, Wi1 bb (.lst 5 (bs.map celLb)) ∧ bs.length * 40 ≤ reachBytes :=
    wi_of (f := celLb) (z := 5) (B := 40) (h6.imp id fun ⟨els, e1, e2, e3⟩ => ⟨els, e1, e2, fun e he => by
      obtain ⟨a, b, x, y, c, rfl, _⟩ := e3 e he
      exact ⟨((a, b), (canon x, canon y), c), rfl⟩⟩)
  have hw : All2 WiA [AV.agg [AV.v (.int .i64 rate), AV.v (.int .i64 delay), t1, e1, AV.flt (canon odd), AV.v (.int .i64 att)], pp, kk, qq, bb, AV.v (.int .i64 nn), AV.flt (canon re), AV.flt (canon im), AV.v (.int .i64 at1)]
      [AV.agg [AV.v (.int .i64 rate), AV.v (.int .i64 delay), .lst 1 (ts.map celI), .lst 1 (es.map celI), AV.flt (canon odd), AV.v (.int .i64 att)], .lst 1 (ps.map celI), .lst 1 (ks.map celI), .lst 1 (qs.map celI), .lst 5 (bs.map celLb), AV.v (.int .i64 nn), AV.flt (canon re), AV.flt (canon im), AV.v (.int .i64 at1)] :=
    ⟨.inl ⟨_, _, rfl, rfl, ⟨.inl rfl, .inl rfl, w1, w2, .inl rfl, .inl rfl, trivial⟩⟩, .inr w3, .inr w4, .inr w5, .inr w6, .refl _, .refl _, .refl _, .refl _, trivial⟩
  have hb : reachBytes = 140737488351232 := by kernel_rfl
  exact law (spec_bL (bs.length + 200000 + 1)) (@law_arrives (bs.length + 200000) 0 rate delay att at1 nn ts es ps ks qs bs (canon odd) (canon re) (canon im) (by omega) (by omega) (by omega) (by omega) (by omega) (by omega) (Nat.le_refl _)) (relL_wi hw hr)
end Go.Proofs.Ytnphdnokedhhkaa.Fw
namespace Go.Proofs.Ytnphdnokedhhkaa
open Go.ChangeShapes Go.WideShapes Go.ChangeAt Go.RowKit Fw
theorem straitArrives_lifted (os : Os) (started : os.Started) (H : Type) (enc : TypeId × Value → H) :
    ReturnsInHanded {} Try.checked os 6 .any (Rows.straitArrivesSpec.pre6 enc Try.prog Try.f6 Rows.straitArrivesRow.domain false) (Rows.straitArrivesSpec.post enc Try.prog Try.f6 false true false false) := by
  refine law_lifted (C := Try.checked) (n := 8) (tb := 4) own started (by kernel_rfl) Try.func6
    (ChangeSpec.witness6 (enc := enc) (C := Try.checked) false ⟨#[], #[.agg #[.int .i64 0, .int .i64 0, .slice none 0 0, .slice none 0 0, .float .f64 0, .int .i64 0], .slice none 0 0, .slice none 0 0, .slice none 0 0, .slice none 0 0, .int .i64 0, .float .f64 0, .float .f64 0, .int .i64 0], []⟩ 8 (by kernel_rfl) (by kernel_rfl) (by kernel_rfl) (by kernel_rfl))
    laidOut (by kernel_rfl) (by kernel_rfl) rfl ?_ rfl Try.underlying4 fun _ _ _ h hr => calls6 h hr
  intro ds hd
  have hd : ds.length = 9 := hd
  rcases ds with _ | ⟨a, _ | ⟨b, _ | ⟨c, _ | ⟨d, _ | ⟨e, _ | ⟨f, _ | ⟨g, _ | ⟨h, _ | ⟨i, _ | ⟨z, r⟩⟩⟩⟩⟩⟩⟩⟩⟩⟩ <;> simp at hd
  rfl
theorem straitArrives_holds : Rows.StraitArrivesSaid :=
  OpenClaim.holds_of_wide 6 Try.f6 rfl rfl rfl rfl rfl rfl rfl ⟨rfl, rfl, rfl, rfl, rfl⟩ rfl rfl rfl rfl rfl (by kernel_rfl) Try.func6 (by kernel_rfl)
    (of_decide_eq_true (by kernel_rfl)) (by unfold Func.isWrapper; first | (rw [if_pos (by decide +kernel)]; kernel_rfl) | (rw [if_neg (by decide +kernel)]; exact ⟨rfl, rfl⟩))
    (fun os started H enc _ => straitArrives_lifted os started H enc)
end Go.Proofs.Ytnphdnokedhhkaa
