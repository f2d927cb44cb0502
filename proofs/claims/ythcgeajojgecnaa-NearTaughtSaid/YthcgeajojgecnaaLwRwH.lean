/- train: Raw, the program's and the document's, whatever comes in; both spoken for. -/
import Derived.Test.YthcgeajojgecnaaLwRwG
set_option maxRecDepth 100000
set_option maxHeartbeats 4000000
set_option exponentiation.threshold 4000
set_option linter.unusedSimpArgs false
set_option linter.unusedVariables false
namespace Go.Proofs.Ythcgeajojgecnaa.Fw
open Go Go.RowKit
def cpxA (zs : List (Nat × Nat)) (e : Int) : AV := .tup [.own 1 (zs.map celC) true, .int .i64 e]
theorem wk_cpx (e : Int) : WkT (.tup [.nils, .int .i64 e]) (cpxA [] e) :=
  .inl ⟨_, _, rfl, rfl, .inr (.inr ⟨rfl, 1, true, rfl⟩), .inr (.inl rfl), trivial⟩
def rawArg (o r g : Int) (ss : List ((Nat × Nat) × Bool)) (a m : Int) : List AV := [.agg [.int .i64 o, .int .i64 r, .int .i64 g], .lst 2 (ss.map celS), .int .i64 a, .int .i64 m]
/-- may it be asked? -/
def rawP (o r g : Int) (ss : List ((Nat × Nat) × Bool)) (a m : Int) : Prop := mayB o r g = true ∧ ss.length ≤ 65536 ∧ 0 ≤ a ∧ 1 ≤ m ∧ m ≤ 64
instance (o r g : Int) (ss : List ((Nat × Nat) × Bool)) (a m : Int) : Decidable (rawP o r g ss a m) := by unfold rawP; infer_instance
def rawAll (o r g : Int) (ss : List ((Nat × Nat) × Bool)) (a m : Int) : Bool := (List.range m.toNat).all fun j => okT ss o.toNat r.toNat g.toNat (min a.toNat 65536) j
noncomputable def rawE (o r g : Int) (ss : List ((Nat × Nat) × Bool)) (a m : Int) : Int :=
  if rawP o r g ss a m then (if (chkW ss).2 = 0 then (if rawAll o r g ss a m = true then 0 else 9) else 7) else 1
def rawIs (o r g : Int) (ss : List ((Nat × Nat) × Bool)) (a m : Int) (w : List (Nat × Nat) × List (Nat × Nat)) : Prop :=
  (∃ x, den ⟨fnOf, specZ, 65537⟩ 2 31 (rawArg o r g ss a m) = some x ∧ WkT x (cpxA w.1 (rawE o r g ss a m))) ∧
  (∃ y, den ⟨fnOf, specZ, 65537⟩ 2 35 (rawArg o r g ss a m) = some y ∧ WkT y (cpxA w.2 (rawE o r g ss a m))) ∧
  ((rawE o r g ss a m = 0 ∧ w.1.length = m.toNat ∧ w.2.length = m.toNat ∧ rawL (totR ss o.toNat r.toNat g.toNat (min a.toNat 65536)) (totI ss o.toNat r.toNat g.toNat (min a.toNat 65536)) o.toNat w.1 ∧ rawL (totR ss o.toNat r.toNat g.toNat (min a.toNat 65536)) (totI ss o.toNat r.toNat g.toNat (min a.toNat 65536)) o.toNat w.2) ∨
    (rawE o r g ss a m ≠ 0 ∧ w = ([], [])))
theorem rawL_far {ss : List ((Nat × Nat) × Bool)} {k R G a : Nat} {zs : List (Nat × Nat)} (hl : ss.length ≤ 65536) (h : rawL (totR ss k R G (min a ss.length)) (totI ss k R G (min a ss.length)) k zs) : rawL (totR ss k R G (min a 65536)) (totI ss k R G (min a 65536)) k zs := by
  intro j hj
  obtain ⟨x, y⟩ := h j hj
  refine ⟨?_, ?_⟩
  · unfold totR at x ⊢
    rw [← (far_same hl j).1]; exact x
  · unfold totI at y ⊢
    rw [← (far_same hl j).1]; exact y
theorem raws (o r g : Int) (ss : List ((Nat × Nat) × Bool)) (a m : Int) : ∃ w, rawIs o r g ss a m w := by
  have sl : (ss.map celS).length = ss.length := map_len
  obtain ⟨hch, _⟩ := chkW_is ss
  have hchk := spec_is (P := ⟨fnOf, specZ, 65537⟩) (C := runF ⟨fnOf, specZ, 65537⟩ 1) (f := 73) rfl (chkSemS_at ss)
  unfold chkA at hchk
  have hchk2 := spec_is (P := ⟨fnOf, specZ, 65537⟩) (C := runF ⟨fnOf, specZ, 65537⟩ 0) (f := 100) rfl (chkSemS_at ss)
  unfold chkA at hchk2
  have hgrid := call_den (@tgr_0 65537 0 0 0 0 ss 0 0 0 [] [] [] 0 0 0 0 [] [] (chkW ss).1 (chkW ss).2 hchk2)
  by_cases hP : rawP o r g ss a m
  · obtain ⟨hm, hl, ha, m1, m2⟩ := hP
    have hP : rawP o r g ss a m := ⟨hm, hl, ha, m1, m2⟩
    have hmay : (!mayB o r g) = false := by rw [hm]; rfl
    have hrow := call_den (@trw_2 65537 0 0 0 0 ss a 0 0 [] [] [] 0 0 0 0 [] [] (by rw [sl]; exact dF (by omega)) (dF (by omega)))
    by_cases hc : (chkW ss).2 = 0
    · have hin := of_decide_eq_true hm
      obtain ⟨k, rfl⟩ : ∃ k : Nat, o = (k : Int) := ⟨o.toNat, by omega⟩
      obtain ⟨R, rfl⟩ : ∃ k : Nat, r = (k : Int) := ⟨r.toNat, by omega⟩
      obtain ⟨G, rfl⟩ : ∃ k : Nat, g = (k : Int) := ⟨g.toNat, by omega⟩
      obtain ⟨A, rfl⟩ : ∃ k : Nat, a = (k : Int) := ⟨a.toNat, by omega⟩
      obtain ⟨M, rfl⟩ : ∃ k : Nat, m = (k : Int) := ⟨m.toNat, by omega⟩
      have hmay2 := (hch.1.1 hc).2
      obtain ⟨p1, p2⟩ := @rawP_run 65536 0 ss k R G A M hmay2 hl (by omega) (by omega) (by omega) (by omega) (by omega) (by omega) (by omega) hc (by omega)
      obtain ⟨q1, q2⟩ := @rawD_run 65536 0 ss k R G A M hmay2 hl (by omega) (by omega) (by omega) (by omega) (by omega) (by omega) (by omega) hc (by omega)
      have far : ∀ j, okT ss k R G (min A ss.length) j = okT ss k R G (min A 65536) j := fun j => (far_same (us := []) (vs := []) (pt := ptR) hl j).2
      rcases firstN (fun j => okT ss k R G (min A 65536) j) M with hall | ⟨b, hb, hp, hbad⟩
      · have hE : rawE k R G ss A M = 0 := by
          unfold rawE
          rw [if_pos hP, if_pos hc, if_pos]
          unfold rawAll
          simp only [Int.toNat_natCast]
          exact List.all_eq_true.2 fun j hj => hall j (List.mem_range.1 hj)
        obtain ⟨x, dx, lx, rx⟩ := p1 (fun j hj => by rw [far]; exact hall j hj)
        obtain ⟨y, dy, ly, ry⟩ := q1 hall
        refine ⟨(x, y), ?_⟩
        unfold rawIs
        rw [hE]
        simp only [Int.toNat_natCast]
        exact ⟨⟨_, dx, WkT.refl _⟩, ⟨_, dy, WkT.refl _⟩, .inl ⟨trivial, lx, ly, rawL_far hl rx, ry⟩⟩
      · have hE : rawE k R G ss A M = 9 := by
          unfold rawE
          rw [if_pos hP, if_pos hc, if_neg]
          unfold rawAll
          simp only [Int.toNat_natCast]
          intro h
          have := List.all_eq_true.1 h b (List.mem_range.2 hb)
          rw [hbad] at this
          cases this
        refine ⟨([], []), ?_⟩
        unfold rawIs
        rw [hE]
        exact ⟨⟨_, p2 b hb (fun j hj => by rw [far]; exact hp j hj) (by rw [far]; exact hbad), wk_cpx 9⟩, ⟨_, q2 b hb hp hbad, wk_cpx 9⟩, .inr ⟨by decide, rfl⟩⟩
    · have h7 : (chkW ss).2 = 7 := by omega
      have hE : rawE o r g ss a m = 7 := by unfold rawE; rw [if_pos hP, if_neg hc]
      rw [h7] at hchk hgrid
      refine ⟨([], []), ?_⟩
      unfold rawIs
      rw [hE]
      refine ⟨⟨_, @trp_5 65537 1 o r g ss a 0 m [] [] [] 0 0 0 0 [] [] (chkW ss).1 7 hmay (by rw [sl]; exact dF (by omega)) (dF (by omega)) (dF (by omega)) (dF (by omega)) hchk rfl, wk_cpx 7⟩,
        ⟨_, @trd_4 65537 1 o r g ss a 0 m [] [] [] 0 0 0 0 [] [] 0 false hmay hrow rfl (dF (by omega)) (dF (by omega)) hgrid rfl, wk_cpx 7⟩, .inr ⟨by decide, rfl⟩⟩
  · have hE : rawE o r g ss a m = 1 := by unfold rawE; rw [if_neg hP]
    refine ⟨([], []), ?_⟩
    unfold rawIs
    rw [hE]
    have fin1 : ∀ {x y : AV}, den ⟨fnOf, specZ, 65537⟩ 2 31 (rawArg o r g ss a m) = some (.tup [.nils, .int .i64 1]) → den ⟨fnOf, specZ, 65537⟩ 2 35 (rawArg o r g ss a m) = some (.tup [.nils, .int .i64 1]) →
        (∃ x, den ⟨fnOf, specZ, 65537⟩ 2 31 (rawArg o r g ss a m) = some x ∧ WkT x (cpxA [] 1)) ∧ (∃ y, den ⟨fnOf, specZ, 65537⟩ 2 35 (rawArg o r g ss a m) = some y ∧ WkT y (cpxA [] 1)) := fun h1 h2 => ⟨⟨_, h1, wk_cpx 1⟩, ⟨_, h2, wk_cpx 1⟩⟩
    suffices hs : (∃ x, den ⟨fnOf, specZ, 65537⟩ 2 31 (rawArg o r g ss a m) = some x ∧ WkT x (cpxA [] 1)) ∧ (∃ y, den ⟨fnOf, specZ, 65537⟩ 2 35 (rawArg o r g ss a m) = some y ∧ WkT y (cpxA [] 1)) from ⟨hs.1, hs.2, .inr ⟨by decide, rfl⟩⟩
    have row0 : ¬ (65536 < ss.length) → ¬ (a < 0) → _ := fun h1 h2 => call_den (@trw_2 65537 0 0 0 0 ss a 0 0 [] [] [] 0 0 0 0 [] [] (by rw [sl]; exact dF (by omega)) (dF (by omega)))
    by_cases hm : mayB o r g = true
    · have hmay : (!mayB o r g) = false := by rw [hm]; rfl
      by_cases h1 : 65536 < ss.length
      · have hrow := call_den (@trw_0 65537 0 0 0 0 ss a 0 0 [] [] [] 0 0 0 0 [] [] (by rw [sl]; exact dT (by omega)))
        exact fin1 (x := .nils) (y := .nils) (@trp_1 65537 1 o r g ss a 0 m [] [] [] 0 0 0 0 [] [] hmay (by rw [sl]; exact dT (by omega))) (@trd_1 65537 1 o r g ss a 0 m [] [] [] 0 0 0 0 [] [] 1 hmay hrow rfl)
      · by_cases h2 : a < 0
        · have hrow := call_den (@trw_1 65537 0 0 0 0 ss a 0 0 [] [] [] 0 0 0 0 [] [] (by rw [sl]; exact dF (by omega)) (dT h2))
          exact fin1 (x := .nils) (y := .nils) (@trp_2 65537 1 o r g ss a 0 m [] [] [] 0 0 0 0 [] [] hmay (by rw [sl]; exact dF (by omega)) (dT h2)) (@trd_1 65537 1 o r g ss a 0 m [] [] [] 0 0 0 0 [] [] 1 hmay hrow rfl)
        · have hrow := row0 h1 h2
          by_cases h3 : m < 1
          · exact fin1 (x := .nils) (y := .nils) (@trp_3 65537 1 o r g ss a 0 m [] [] [] 0 0 0 0 [] [] hmay (by rw [sl]; exact dF (by omega)) (dF h2) (dT h3)) (@trd_2 65537 1 o r g ss a 0 m [] [] [] 0 0 0 0 [] [] 0 hmay hrow rfl (dT h3))
          · have h4 : m > 64 := by
              by_cases h5 : m > 64
              · exact h5
              · exact absurd ⟨hm, by omega, by omega, by omega, by omega⟩ hP
            exact fin1 (x := .nils) (y := .nils) (@trp_4 65537 1 o r g ss a 0 m [] [] [] 0 0 0 0 [] [] hmay (by rw [sl]; exact dF (by omega)) (dF h2) (dF h3) (dT h4)) (@trd_3 65537 1 o r g ss a 0 m [] [] [] 0 0 0 0 [] [] 0 hmay hrow rfl (dF h3) (dT h4))
    · have hmay : (!mayB o r g) = true := by cases h : mayB o r g with | true => exact absurd h hm | false => rfl
      exact fin1 (x := .nils) (y := .nils) (@trp_0 65537 1 o r g ss a 0 m [] [] [] 0 0 0 0 [] [] hmay) (@trd_0 65537 1 o r g ss a 0 m [] [] [] 0 0 0 0 [] [] hmay)
/-- the raw taps: the program's, the document's -/
noncomputable def rawW (o r g : Int) (ss : List ((Nat × Nat) × Bool)) (a m : Int) : List (Nat × Nat) × List (Nat × Nat) := Classical.choose (raws o r g ss a m)
theorem rawW_is (o r g : Int) (ss : List ((Nat × Nat) × Bool)) (a m : Int) : rawIs o r g ss a m (rawW o r g ss a m) := Classical.choose_spec (raws o r g ss a m)
noncomputable def rawSem (doc : Bool) : List AV → Option AV
  | [.agg [.v (.int .i64 o), .v (.int .i64 r), .v (.int .i64 g)], .lst 2 els, .v (.int .i64 a), .v (.int .i64 m)] =>
    match unL unS els with
    | some ss => some (cpxA (if doc then (rawW o r g ss a m).2 else (rawW o r g ss a m).1) (rawE o r g ss a m))
    | _ => none
  | _ => none
theorem rawSem_is {doc : Bool} {avs : List AV} {x : AV} (h : rawSem doc avs = some x) : ∃ o r g ss a m, avs = rawArg o r g ss a m ∧ x = cpxA (if doc then (rawW o r g ss a m).2 else (rawW o r g ss a m).1) (rawE o r g ss a m) := by
  unfold rawSem at h
  split at h
  · rename_i o r g els a m
    split at h
    · rename_i ss h1
      cases h
      have := unL_inv (enc := celS) unS_is h1
      subst this
      exact ⟨o, r, g, ss, a, m, rfl, rfl⟩
    · cases h
  · cases h
theorem rawSem_at (doc : Bool) (o r g : Int) (ss : List ((Nat × Nat) × Bool)) (a m : Int) : rawSem doc (rawArg o r g ss a m) = some (cpxA (if doc then (rawW o r g ss a m).2 else (rawW o r g ss a m).1) (rawE o r g ss a m)) := by
  simp only [rawSem, rawArg, unS_L]
noncomputable def newG : FuncId → Option (List AV → Option AV)
  | 31 => some (rawSem false)
  | 35 => some (rawSem true)
  | _ => none
noncomputable def specG : FuncId → Option (List AV → Option AV) := fun f => match newG f with | some g => some g | none => specZ f
theorem spec_g : SpecOk Try.prog ⟨fnOf, specG, 0⟩ :=
  spec_addz spec_z (fun L => fnsOk _ _) follows newG fun f g h => by
    unfold newG at h
    split at h
    · cases h
      refine ⟨⟨_, Try.func31, ne_of_beq_false (by kernel_rfl), by kernel_rfl⟩, fun avs r h => ?_⟩
      obtain ⟨o, r, g, ss, a, m, rfl, rfl⟩ := rawSem_is h
      obtain ⟨⟨x, h1, h2⟩, _⟩ := rawW_is o r g ss a m
      exact toldZ (P := ⟨fnOf, specZ, 0⟩) h1 h2
    · cases h
      refine ⟨⟨_, Try.func35, ne_of_beq_false (by kernel_rfl), by kernel_rfl⟩, fun avs r h => ?_⟩
      obtain ⟨o, r, g, ss, a, m, rfl, rfl⟩ := rawSem_is h
      obtain ⟨_, ⟨x, h1, h2⟩, _⟩ := rawW_is o r g ss a m
      exact toldZ (P := ⟨fnOf, specZ, 0⟩) h1 h2
    · cases h
end Go.Proofs.Ythcgeajojgecnaa.Fw
