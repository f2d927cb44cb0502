/- Whatever the pulse and the points, pulse.Shape and the document's Shape answer the same, number by number; both spoken for. -/
import Derived.Test.YtaklelfdcbgebaaLwSpI
set_option maxRecDepth 100000
set_option maxHeartbeats 4000000
set_option linter.unusedSimpArgs false
set_option linter.unusedVariables false
namespace Go.Proofs.Ytaklelfdcbgebaa.Fw
open Go Go.RowKit
theorem toldH {P : Prog} {f : FuncId} {avs : List AV} {r r1 : AV} {L k : Nat} (h : den ⟨P.fn, P.spec, L⟩ k f avs = some r1) (hw : WkT r1 r) : ∃ avs1 L k r1, All2 WiA avs avs1 ∧ den ⟨P.fn, P.spec, L⟩ k f avs1 = some r1 ∧ WkT r1 r :=
  ⟨avs, L, k, r1, all2_refl WiA.refl _, h, hw⟩
/-- what both Shapes answer -/
def shpA (us : List (Nat × Nat)) (e : Int) : AV := .tup [.own 1 (us.map celC) true, .int .i64 e]
theorem wk_none (e : Int) : WkT (.tup [.nils, .int .i64 e]) (shpA [] e) :=
  .inl ⟨_, _, rfl, rfl, .inr (.inr ⟨rfl, 1, true, rfl⟩), .inr (.inl rfl), trivial⟩
def sameC (us vs : List (Nat × Nat)) : Prop := us.length = vs.length ∧ ∀ i, i < us.length → feq (us.getD i (0, 0)).1 (vs.getD i (0, 0)).1 = true ∧ feq (us.getD i (0, 0)).2 (vs.getD i (0, 0)).2 = true
theorem sameC_nil : sameC [] [] := ⟨rfl, fun i hi => absurd hi (Nat.not_lt_zero _)⟩
def shpArg (rate fore : Int) (ts : List Nat) (zs : List (Nat × Nat)) : List AV := [.agg [.int .i64 rate, .int .i64 fore, .lst 1 (ts.map celF)], .lst 1 (zs.map celC)]
def shpIs (rate fore : Int) (ts : List Nat) (zs : List (Nat × Nat)) (w : List (Nat × Nat) × List (Nat × Nat) × Int) : Prop :=
  (∃ x, den ⟨fnOf, specL, 65537⟩ 2 18 (shpArg rate fore ts zs) = some x ∧ WkT x (shpA w.1 w.2.2)) ∧
  (∃ y, den ⟨fnOf, specL, 65537⟩ 2 19 (shpArg rate fore ts zs) = some y ∧ WkT y (shpA w.2.1 w.2.2)) ∧
  sameC w.1 w.2.1 ∧ w.1.length ≤ 65536
theorem shapes (rate fore : Int) (ts : List Nat) (zs : List (Nat × Nat)) : ∃ w, shpIs rate fore ts zs w := by
  have hc1 := spec_is (P := ⟨fnOf, specL, 65537⟩) (C := runF ⟨fnOf, specL, 65537⟩ 1) (f := 13) rfl (lenSem_at rate fore ts (zs.length : Int))
  have hc2 := spec_is (P := ⟨fnOf, specL, 65537⟩) (C := runF ⟨fnOf, specL, 65537⟩ 1) (f := 14) rfl (lenSem_at rate fore ts (zs.length : Int))
  have hkz : (zs.map celC).length = zs.length := map_len
  obtain ⟨m, e, hl⟩ : ∃ m e, lenF rate fore ts zs.length = (m, e) := ⟨_, _, rfl⟩
  rw [hl] at hc1 hc2
  by_cases h0 : e = 0
  · subst h0
    obtain ⟨h1, h2, h3, h4⟩ := lenF_ok (rate := rate) (fore := fore) (ts := ts) (k := (zs.length : Int)) (by rw [hl])
    obtain ⟨r1, r2, r3, r4, r5, _, r7, _⟩ := chkF_ok h1
    obtain ⟨r, rfl⟩ : ∃ r : Nat, rate = (r : Int) := ⟨rate.toNat, by omega⟩
    obtain ⟨mm, rfl⟩ : ∃ mm : Nat, m = (mm : Int) := by
      refine ⟨m.toNat, ?_⟩
      rw [hl] at h4
      rcases h4 with ⟨_, h4⟩ | ⟨h5, h4, _⟩
      · simp only at h4; omega
      · simp only at h4
        have := Int.mul_nonneg (show 0 ≤ (zs.length : Int) - 1 by omega) (show 0 ≤ (r : Int) by omega)
        omega
    obtain ⟨l1, l2, l3, l4, l5, l6⟩ := len_nat hl
    obtain ⟨t, ht1, ht2⟩ := taps_total r7
    rcases firstI (fun i => ptOK (zs.getD i (0, 0))) zs.length with hall | ⟨k, hk, hp, hb⟩
    · obtain ⟨zr, zi, a1, a2, a3⟩ := points_total hall
      have hp : ∀ k, k < zs.length → plainF (zs.getD k (0, 0)).1 4638707616191610880 = true ∧ plainF (zs.getD k (0, 0)).2 4638707616191610880 = true := fun k hk => by
        have := hall k hk; unfold ptOK at this; rw [Bool.and_eq_true] at this; exact this
      obtain ⟨us, d1, g1⟩ := @shape_den 65536 1 r mm fore ts zs zr zi t a1 a2 ht1 (Nat.le_refl _) hl hp a3 ht2
      have hR := @rows_all 65536 0 zs (by omega) (by omega) hall
      obtain ⟨cs, d2, g2, g3⟩ := @doc_den 65536 1 r mm fore ts zs zr zi t a1 a2 ht1 (Nat.le_refl _) hl (call_den hR) a3 ht2
      refine ⟨(us, cs, 0), ⟨_, d1, WkT.refl _⟩, ⟨_, d2, WkT.refl _⟩, ⟨?_, fun i hi => ?_⟩, ?_⟩
      · show us.length = cs.length; rw [g1.1, g2]
      · exact shapes_same l1 g1 g2 g3 (by rw [← g1.1]; exact hi)
      · show us.length ≤ _; rw [g1.1]; exact l5
    · obtain ⟨zr, zi, a1, a2, a3⟩ := points_total hp
      have d1 := @shape_bad 65536 1 r mm fore ts zs zr zi t k hk a1 a2 ht1 (Nat.le_refl _) hl hp hb a3 ht2
      have hR := @rows_bad 65536 0 zs k hk (by omega) (by omega) hp hb
      have d2 := @psd_1 65537 1 (r : Int) fore 0 ts [] [] zs [] [] 0 0 0 0 0 0 0 (mm : Int) 0 false (by rw [hkz]; exact hc2) rfl (call_den hR) rfl
      exact ⟨([], [], 7), ⟨_, d1, wk_none 7⟩, ⟨_, d2, wk_none 7⟩, sameC_nil, Nat.zero_le _⟩
  · have b0 : (e != 0) = true := by simpa using h0
    have d1 := @psh_0 65537 1 rate fore 0 ts [] [] zs [] [] 0 0 0 0 0 0 0 m e (by rw [hkz]; exact hc1) b0
    have d2 := @psd_0 65537 1 rate fore 0 ts [] [] zs [] [] 0 0 0 0 0 0 0 m e (by rw [hkz]; exact hc2) b0
    exact ⟨([], [], e), ⟨_, d1, wk_none e⟩, ⟨_, d2, wk_none e⟩, sameC_nil, Nat.zero_le _⟩
/-- the samples: the program's, the document's, and the number said -/
noncomputable def shpW (rate fore : Int) (ts : List Nat) (zs : List (Nat × Nat)) : List (Nat × Nat) × List (Nat × Nat) × Int := Classical.choose (shapes rate fore ts zs)
theorem shpW_is (rate fore : Int) (ts : List Nat) (zs : List (Nat × Nat)) : shpIs rate fore ts zs (shpW rate fore ts zs) := Classical.choose_spec (shapes rate fore ts zs)
noncomputable def shpSem (doc : Bool) : List AV → Option AV
  | [.agg [.v (.int .i64 rate), .v (.int .i64 fore), .lst 1 els], .lst 1 fls] =>
    match unL unF els, unL unC fls with
    | some ts, some zs => some (shpA (if doc then (shpW rate fore ts zs).2.1 else (shpW rate fore ts zs).1) (shpW rate fore ts zs).2.2)
    | _, _ => none
  | _ => none
theorem shpSem_is {doc : Bool} {avs : List AV} {r : AV} (h : shpSem doc avs = some r) : ∃ rate fore ts zs, avs = shpArg rate fore ts zs ∧ r = shpA (if doc then (shpW rate fore ts zs).2.1 else (shpW rate fore ts zs).1) (shpW rate fore ts zs).2.2 := by
  unfold shpSem at h
  split at h
  · rename_i rate fore els fls
    split at h
    · rename_i ts zs h1 h2
      cases h
      have := unL_inv (enc := celF) unF_is h1
      subst this
      have := unL_inv (enc := celC) unC_is h2
      subst this
      exact ⟨rate, fore, ts, zs, rfl, rfl⟩
    · cases h
  · cases h
theorem shpSem_at (doc : Bool) (rate fore : Int) (ts : List Nat) (zs : List (Nat × Nat)) : shpSem doc (shpArg rate fore ts zs) = some (shpA (if doc then (shpW rate fore ts zs).2.1 else (shpW rate fore ts zs).1) (shpW rate fore ts zs).2.2) := by
  simp only [shpSem, shpArg, unF_L, unC_L]
noncomputable def newH : FuncId → Option (List AV → Option AV)
  | 18 => some (shpSem false)
  | 19 => some (shpSem true)
  | _ => none
/-- both Shapes, too -/
noncomputable def specH : FuncId → Option (List AV → Option AV) := fun f => match newH f with | some g => some g | none => specL f
theorem spec_h : SpecOk Try.prog ⟨fnOf, specH, 0⟩ :=
  spec_adds spec_l (fun L => fnsOk _ _) follows newH fun f g h => by
    unfold newH at h
    split at h
    · cases h
      refine ⟨⟨_, Try.func18, ne_of_beq_false (by kernel_rfl), by kernel_rfl⟩, fun avs r h => ?_⟩
      obtain ⟨rate, fore, ts, zs, rfl, rfl⟩ := shpSem_is h
      obtain ⟨⟨x, h1, h2⟩, _⟩ := shpW_is rate fore ts zs
      exact toldH (P := ⟨fnOf, specL, 0⟩) h1 h2
    · cases h
      refine ⟨⟨_, Try.func19, ne_of_beq_false (by kernel_rfl), by kernel_rfl⟩, fun avs r h => ?_⟩
      obtain ⟨rate, fore, ts, zs, rfl, rfl⟩ := shpSem_is h
      obtain ⟨_, ⟨x, h1, h2⟩, _⟩ := shpW_is rate fore ts zs
      exact toldH (P := ⟨fnOf, specL, 0⟩) h1 h2
    · cases h
theorem spec_hL (L : Nat) : SpecOk Try.prog ⟨fnOf, specH, L⟩ := fun f g h => spec_h f g h
end Go.Proofs.Ytaklelfdcbgebaa.Fw
