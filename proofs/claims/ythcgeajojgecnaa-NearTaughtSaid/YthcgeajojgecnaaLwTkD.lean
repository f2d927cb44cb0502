/- train: Taps, the program's and the document's, whatever comes in; both spoken for. -/
import Derived.Test.YthcgeajojgecnaaLwTkC
set_option maxRecDepth 100000
set_option maxHeartbeats 4000000
set_option exponentiation.threshold 4000
set_option linter.unusedSimpArgs false
set_option linter.unusedVariables false
namespace Go.Proofs.Ythcgeajojgecnaa.Fw
open Go Go.RowKit
/-- a tap's parts, in steps -/
def tpR (o r g : Int) (ss : List ((Nat × Nat) × Bool)) (a : Int) (j : Nat) : Int := tapK (totR ss o.toNat r.toNat g.toNat (min a.toNat 65536) j) o.toNat
def tpI (o r g : Int) (ss : List ((Nat × Nat) × Bool)) (a : Int) (j : Nat) : Int := tapK (totI ss o.toNat r.toNat g.toNat (min a.toNat 65536) j) o.toNat
noncomputable def tapE (o r g : Int) (ss : List ((Nat × Nat) × Bool)) (a m : Int) : Int :=
  if rawE o r g ss a m = 0 then (if areT (tpR o r g ss a) (tpI o r g ss a) m.toNat then 0 else 8) else rawE o r g ss a m
def tapIs (o r g : Int) (ss : List ((Nat × Nat) × Bool)) (a m : Int) (w : List (Nat × Nat) × List (Nat × Nat)) : Prop :=
  (∃ x, den ⟨fnOf, specG, 65537⟩ 3 37 (rawArg o r g ss a m) = some x ∧ WkT x (cpxA w.1 (tapE o r g ss a m))) ∧
  (∃ y, den ⟨fnOf, specG, 65537⟩ 3 36 (rawArg o r g ss a m) = some y ∧ WkT y (cpxA w.2 (tapE o r g ss a m))) ∧
  ((tapE o r g ss a m = 0 ∧ w.1.length = m.toNat ∧ w.2.length = m.toNat ∧ tapL (tpR o r g ss a) (tpI o r g ss a) w.1 ∧ tapL (tpR o r g ss a) (tpI o r g ss a) w.2) ∨
    (tapE o r g ss a m ≠ 0 ∧ w = ([], [])))
theorem rawE_ok {o r g : Int} {ss : List ((Nat × Nat) × Bool)} {a m : Int} (h : rawE o r g ss a m = 0) : rawP o r g ss a m ∧ (chkW ss).2 = 0 ∧ rawAll o r g ss a m = true := by
  unfold rawE at h
  split at h
  · rename_i h1
    split at h
    · rename_i h2
      split at h
      · rename_i h3; exact ⟨h1, h2, h3⟩
      · cases h
    · cases h
  · cases h
theorem tot_small {o r g : Int} {ss : List ((Nat × Nat) × Bool)} {a m : Int} (h : rawE o r g ss a m = 0) (A j : Nat) : (totR ss o.toNat r.toNat g.toNat A j).natAbs ≤ 2 ^ 31 ∧ (totI ss o.toNat r.toNat g.toNat A j).natAbs ≤ 2 ^ 31 := by
  obtain ⟨h1, h2, _⟩ := rawE_ok h
  have hin := of_decide_eq_true h1.1
  have hm := ((chkW_is ss).1.1.1 h2).2
  exact ⟨tot_bound (fun i hi => (may_grid (hm i hi)).1.2.2) (by omega) _ j, tot_bound (fun i hi => (may_grid (hm i hi)).2.2.2) (by omega) _ j⟩
theorem tapss (o r g : Int) (ss : List ((Nat × Nat) × Bool)) (a m : Int) : ∃ w, tapIs o r g ss a m w := by
  have hp := spec_is (P := ⟨fnOf, specG, 65537⟩) (C := runF ⟨fnOf, specG, 65537⟩ 2) (f := 31) rfl (rawSem_at false o r g ss a m)
  have hd := spec_is (P := ⟨fnOf, specG, 65537⟩) (C := runF ⟨fnOf, specG, 65537⟩ 2) (f := 35) rfl (rawSem_at true o r g ss a m)
  rw [if_neg (by decide)] at hp
  rw [if_pos rfl] at hd
  obtain ⟨_, _, hw⟩ := rawW_is o r g ss a m
  generalize rawW o r g ss a m = w at *
  obtain ⟨ps, ds⟩ := w
  rcases hw with ⟨h0, l1, l2, r1, r2⟩ | ⟨h0, hw⟩
  · rw [h0] at hp hd
    obtain ⟨hP, hc, _⟩ := rawE_ok h0
    have hin := of_decide_eq_true hP.1
    have hm := hP.2.2.2
    have hT := fun j => tot_small h0 (min a.toNat 65536) j
    have hk : 1 ≤ o.toNat := by omega
    have l1 : ps.length = m.toNat := l1
    have l2 : ds.length = m.toNat := l2
    obtain ⟨p1, p2⟩ := @tapsP_run 65536 1 o r g ss a m ps _ _ o.toNat hk r1 (fun j _ => hT j) (by omega) (by omega) hp
    obtain ⟨q1, q2⟩ := @tapsD_run 65536 0 o r g ss a m ds _ _ o.toNat hk r2 (fun j _ => hT j) (by omega) (by omega) (by omega) hd
    rw [l1] at p1 p2
    rw [l2] at q1 q2
    by_cases hA : areT (tpR o r g ss a) (tpI o r g ss a) m.toNat
    · have hE : tapE o r g ss a m = 0 := by unfold tapE; rw [if_pos h0, if_pos hA]
      obtain ⟨x, dx, lx, tx⟩ := p1 hA
      obtain ⟨y, dy, ly, ty⟩ := q1 hA
      refine ⟨(x, y), ?_⟩
      unfold tapIs
      rw [hE]
      exact ⟨⟨_, dx, WkT.refl _⟩, ⟨_, dy, WkT.refl _⟩, .inl ⟨rfl, lx, ly, tx, ty⟩⟩
    · have hE : tapE o r g ss a m = 8 := by unfold tapE; rw [if_pos h0, if_neg hA]
      refine ⟨([], []), ?_⟩
      unfold tapIs
      rw [hE]
      exact ⟨⟨_, p2 hA, wk_cpx 8⟩, ⟨_, q2 hA, wk_cpx 8⟩, .inr ⟨by decide, rfl⟩⟩
  · cases hw
    have hE : tapE o r g ss a m = rawE o r g ss a m := by unfold tapE; rw [if_neg h0]
    have hb : (rawE o r g ss a m != 0) = true := by simpa using h0
    refine ⟨([], []), ?_⟩
    unfold tapIs
    rw [hE]
    exact ⟨⟨_, @tkp_0 65537 2 o r g ss a m [] [] 0 0 0 0 0 [] [] [] _ hp hb, wk_cpx _⟩, ⟨_, @tkd_0 65537 2 o r g ss a m [] [] 0 0 0 0 0 [] [] [] _ hd hb, wk_cpx _⟩, .inr ⟨h0, rfl⟩⟩
/-- the taps: the program's, the document's -/
noncomputable def tapW (o r g : Int) (ss : List ((Nat × Nat) × Bool)) (a m : Int) : List (Nat × Nat) × List (Nat × Nat) := Classical.choose (tapss o r g ss a m)
theorem tapW_is (o r g : Int) (ss : List ((Nat × Nat) × Bool)) (a m : Int) : tapIs o r g ss a m (tapW o r g ss a m) := Classical.choose_spec (tapss o r g ss a m)
noncomputable def tapSem (doc : Bool) : List AV → Option AV
  | [.agg [.v (.int .i64 o), .v (.int .i64 r), .v (.int .i64 g)], .lst 2 els, .v (.int .i64 a), .v (.int .i64 m)] =>
    match unL unS els with
    | some ss => some (cpxA (if doc then (tapW o r g ss a m).2 else (tapW o r g ss a m).1) (tapE o r g ss a m))
    | _ => none
  | _ => none
theorem tapSem_is {doc : Bool} {avs : List AV} {x : AV} (h : tapSem doc avs = some x) : ∃ o r g ss a m, avs = rawArg o r g ss a m ∧ x = cpxA (if doc then (tapW o r g ss a m).2 else (tapW o r g ss a m).1) (tapE o r g ss a m) := by
  unfold tapSem at h
  split at h
  · rename_i o r g els a m
    split at h
    · rename_i ss h1
      cases h
      have := unL_inv (enc := celS) unS_is h1
      subst this
      exact ⟨o, r, g, ss, a, m, rfl, rfl⟩
    · cases h
  · cases h
theorem tapSem_at (doc : Bool) (o r g : Int) (ss : List ((Nat × Nat) × Bool)) (a m : Int) : tapSem doc (rawArg o r g ss a m) = some (cpxA (if doc then (tapW o r g ss a m).2 else (tapW o r g ss a m).1) (tapE o r g ss a m)) := by
  simp only [tapSem, rawArg, unS_L]
noncomputable def newT : FuncId → Option (List AV → Option AV)
  | 37 => some (tapSem false)
  | 36 => some (tapSem true)
  | _ => none
noncomputable def specT : FuncId → Option (List AV → Option AV) := fun f => match newT f with | some g => some g | none => specG f
theorem spec_t : SpecOk Try.prog ⟨fnOf, specT, 0⟩ :=
  spec_addz spec_g (fun L => fnsOk _ _) follows newT fun f g h => by
    unfold newT at h
    split at h
    · cases h
      refine ⟨⟨_, Try.func37, ne_of_beq_false (by kernel_rfl), by kernel_rfl⟩, fun avs r h => ?_⟩
      obtain ⟨o, r, g, ss, a, m, rfl, rfl⟩ := tapSem_is h
      obtain ⟨⟨x, h1, h2⟩, _⟩ := tapW_is o r g ss a m
      exact toldZ (P := ⟨fnOf, specG, 0⟩) h1 h2
    · cases h
      refine ⟨⟨_, Try.func36, ne_of_beq_false (by kernel_rfl), by kernel_rfl⟩, fun avs r h => ?_⟩
      obtain ⟨o, r, g, ss, a, m, rfl, rfl⟩ := tapSem_is h
      obtain ⟨_, ⟨x, h1, h2⟩, _⟩ := tapW_is o r g ss a m
      exact toldZ (P := ⟨fnOf, specG, 0⟩) h1 h2
    · cases h
end Go.Proofs.Ythcgeajojgecnaa.Fw
