/- The abstract evaluator, part K3: slices; aggregates; what is made. -/
import Derived.Test.YtnccnmeecngopaaFwK2
set_option linter.unusedVariables false
set_option linter.unusedSimpArgs false
namespace Go.Proofs.Ytnccnmeecngopaa.Fw
open Go Go.RowKit

section
variable {P : Program} {B : Nat} {ρ : Map} {old : List Nat → Prop} {w : World} {st : List Nat} {H H' : Heap} {own : Site} {e : Env} {a : Act} {o : Oper} {m : MOp} {v : AV}

/-! ### lists -/
theorem relL_take : ∀ {cs : List AV} {ys : List Value} (k : Nat), RelL ρ old w cs ys → RelL ρ old w (cs.take k) (ys.take k)
  | [], [], k, _ => by simp [RelL]
  | _ :: _, _ :: _, 0, _ => by simp [RelL]
  | c :: cs, y :: ys, k + 1, h => by simp only [RelL] at h; simp only [List.take_succ_cons, RelL]; exact ⟨h.1, relL_take k h.2⟩
  | [], _ :: _, _, h => by simp only [RelL] at h
  | _ :: _, [], _, h => by simp only [RelL] at h
theorem relL_drop : ∀ {cs : List AV} {ys : List Value} (k : Nat), RelL ρ old w cs ys → RelL ρ old w (cs.drop k) (ys.drop k)
  | [], [], k, _ => by simp [RelL]
  | _ :: _, _ :: _, 0, h => by simpa using h
  | c :: cs, y :: ys, k + 1, h => by simp only [RelL] at h; simpa using relL_drop k h.2
  | [], _ :: _, _, h => by simp only [RelL] at h
  | _ :: _, [], _, h => by simp only [RelL] at h
theorem relL_append : ∀ {cs : List AV} {ys : List Value} {ds : List AV} {zs : List Value}, RelL ρ old w cs ys → RelL ρ old w ds zs → RelL ρ old w (cs ++ ds) (ys ++ zs)
  | [], [], _, _, _, h => by simpa using h
  | c :: cs, y :: ys, _, _, h1, h2 => by simp only [RelL] at h1; simp only [List.cons_append, RelL]; exact ⟨h1.1, relL_append h1.2 h2⟩
  | [], _ :: _, _, _, h, _ => by simp only [RelL] at h
  | _ :: _, [], _, _, h, _ => by simp only [RelL] at h
theorem fold_fill (off : Nat) : ∀ (l : List Value) (k : Nat) (cells : Array Value), off + k + l.length ≤ cells.size →
    ((l.zipIdx k).foldl (fun (cs : Array Value) (p : Value × Nat) => cs.setIfInBounds (off + p.2) p.1) cells).toList = cells.toList.take (off + k) ++ l ++ cells.toList.drop (off + k + l.length)
  | [], k, cells, _ => by simp
  | c :: l, k, cells, h => by
    simp only [List.length_cons] at h
    simp only [List.zipIdx_cons, List.foldl_cons]
    rw [fold_fill off l (k + 1) _ (by simp; omega)]
    simp only [Array.toList_setIfInBounds]
    rw [show off + (k + 1) = off + k + 1 by omega]
    have := list_seg_step cells.toList (off + k) c l (by simp; omega)
    simpa [Nat.add_assoc, Nat.add_comm, Nat.add_left_comm] using this

def PartsOk (R : Opd → Operand → Prop) (place : Nat → Option (Nat × Nat)) : List (Nat × Operand) → List (Nat × Nat × Opd) → Prop
  | [], [] => True
  | p :: r, q :: s => (place p.1 = some (q.1, q.2.1) ∧ R q.2.2 p.2) ∧ PartsOk R place r s
  | _, _ => False
theorem fill_run (place : Nat → Option (Nat × Nat)) : ∀ (parts : List (Nat × Operand)) (ps : List (Nat × Nat × Opd)) (cs : List AV) (cells : Array Value) (r : List AV),
    PartsOk (fun y x => RelV ρ old w (y.ev e) (a.eval x)) place parts ps →
    RelL ρ old w cs cells.toList → fillParts cs (evParts e ps) = some r →
    ∃ cells' : Array Value, Instr.fill place cells (parts.map fun p => (p.1, a.eval p.2)) = some cells' ∧ RelL ρ old w r cells'.toList
  | [], [], cs, cells, r, hp, hc, h => by
    simp only [evParts, fillParts] at h
    cases h
    exact ⟨cells, rfl, hc⟩
  | [], _ :: _, _, _, _, hp, _, _ => by simp only [PartsOk] at hp
  | _ :: _, [], _, _, _, hp, _, _ => by simp only [PartsOk] at hp
  | (i, x) :: parts, (off, n, y) :: ps, cs, cells, r, hp, hc, h => by
    simp only [PartsOk] at hp
    obtain ⟨h1, h2⟩ := hp
    simp only [evParts, fillParts] at h
    split at h
    · rename_i hl
      obtain ⟨k1, k2, k3⟩ := cells_rel hl.2.2 h1.2
      have hsz : (a.eval x).cells.size = n := by rw [← Array.length_toList, k3]; exact hl.1
      have hcl : cells.size = cs.length := by rw [← Array.length_toList, relL_length hc]
      have hl2 := hl.2.1
      have hf := fold_fill off (a.eval x).cells.toList 0 cells (by simp [hsz]; omega)
      have hc' : RelL ρ old w (putCells cs off (cellsOf (y.ev e))) ((a.eval x).cells.zipIdx.foldl (fun (cs : Array Value) (p : Value × Nat) => cs.setIfInBounds (off + p.2) p.1) cells).toList := by
        rw [← Array.foldl_toList, Array.toList_zipIdx, hf]
        unfold putCells
        rw [k3]
        simpa using relL_append (relL_append (relL_take off hc) k1) (relL_drop (off + (cellsOf (y.ev e)).length) hc)
      obtain ⟨cells', h3, h4⟩ := fill_run place parts ps _ _ r h2 hc' h
      refine ⟨cells', ?_, h4⟩
      simp only [List.map_cons, Instr.fill, h1.1]
      rw [if_neg (by simp [hsz]; omega)]
      exact h3
    · cases h

theorem structPlaces_run : ∀ {fs : List Field} {ps : List (Nat × Nat)}, structPlaces P fs = some ps → ∀ w : World, (fs.mapM fun f => Prod.mk f.offset <$> sizeOf f.type : Sem (List (Nat × Nat))).run P w = .ok ps w
  | [], ps, h, w => by simp only [structPlaces] at h; cases h; rfl
  | f :: r, ps, h, w => by
    simp only [structPlaces] at h
    split at h
    · rename_i n l h1 h2
      cases h
      have := structPlaces_run h2 w
      simp [tySize_run h1 w, this]
    · cases h
theorem structParts_ok (R : Opd → Operand → Prop) (hR : ∀ x y, opd x = some y → R y x) {places : List (Nat × Nat)} : ∀ {parts : List (Nat × Operand)} {ps : List (Nat × Nat × Opd)}, structParts places parts = some ps → PartsOk R (fun i => places[i]?) parts ps
  | [], ps, h => by simp only [structParts] at h; cases h; simp [PartsOk]
  | (i, x) :: r, ps, h => by
    simp only [structParts] at h
    split at h
    · cases h
    · rename_i off n hp
      split at h
      · rename_i y l h1 h2
        cases h
        exact ⟨⟨hp, hR _ _ h1⟩, structParts_ok R hR h2⟩
      · cases h
theorem arrParts_ok (R : Opd → Operand → Prop) (hR : ∀ x y, opd x = some y → R y x) {z : Nat} : ∀ {parts : List (Nat × Operand)} {ps : List (Nat × Nat × Opd)}, arrParts z parts = some ps → PartsOk R (fun i => some (i * z, z)) parts ps
  | [], ps, h => by simp only [arrParts] at h; cases h; simp [PartsOk]
  | (i, x) :: r, ps, h => by
    simp only [arrParts] at h
    split at h
    · rename_i y l h1 h2
      cases h
      exact ⟨⟨rfl, hR _ _ h1⟩, arrParts_ok R hR h2⟩
    · cases h
theorem mapM_array {α β : Type} (xs : Array α) (f : α → Sem β) (w : World) {l : List β} (h : (xs.toList.mapM f).run P w = .ok l w) : (xs.mapM f).run P w = .ok l.toArray w := by
  rw [Array.mapM_eq_mapM_toList]
  simp [h]

theorem does_build {t : TypeId} {parts : Array (Nat × Operand)} (hop : o.op = .build t parts) (hm : compOp P o.op = some m) (h : opSem own st m e H = some (v, H')) (hE : ERel ρ old w e a.tmps) (hH : HRel B ρ old w H) : Does P B own.d H ρ old w st a.eval o v H' := by
  simp only [hop, compOp] at hm
  split at hm <;> first | (cases hm; done) | skip
  rename_i zv hz
  split at hm <;> first | (cases hm; done) | skip
  rename_i zs hzs
  obtain ⟨z, hz1, hz2⟩ := tyZero_run hz w
  have hz0 : RelL ρ old w zs z.cells.toList := by rw [hz2]; exact absL_rel hzs
  have hR : ∀ x y, opd x = some y → RelV ρ old w (y.ev e) (a.eval x) := fun x y hx => opd_rel hE hx
  have fin : ∀ (ps : List (Nat × Nat × Opd)) (place : Nat → Option (Nat × Nat)), m = .build zs ps → PartsOk (fun y x => RelV ρ old w (y.ev e) (a.eval x)) place parts.toList ps →
      (∀ cells', Instr.fill place z.cells (parts.toList.map fun p => (p.1, a.eval p.2)) = some cells' → (execOp a.eval o).run P w = .ok (.value (.agg cells')) w) → Does P B own.d H ρ old w st a.eval o v H' := by
    intro ps place hm0 hok hrun
    subst hm0
    simp only [opSem] at h
    cases hf : fillParts zs (evParts e ps) with
    | none => simp [hf] at h
    | some r =>
      simp [hf] at h
      obtain ⟨rfl, rfl⟩ := h
      obtain ⟨cells', h1, h2⟩ := fill_run place _ _ _ _ _ hok hz0 hf
      exact Does.val hH (hrun _ h1) (by simp only [RelV]; exact ⟨_, rfl, h2⟩)
  split at hm <;> first | (cases hm; done) | skip
  · rename_i fs hu
    split at hm <;> first | (cases hm; done) | skip
    rename_i places hpl
    cases hp : structParts places parts.toList with
    | none => simp [hp] at hm
    | some ps =>
      simp [hp] at hm
      refine fin ps (fun i => places[i]?) hm.symm (structParts_ok _ hR hp) fun cells' hc => ?_
      have hpr := mapM_array fs (fun f => Prod.mk f.offset <$> sizeOf f.type : Field → Sem (Nat × Nat)) w (structPlaces_run hpl w)
      have hc' : Instr.fill (fun i => places[i]?) z.cells (List.map (fun x => (x.1, a.eval x.2)) parts.toList) = some cells' := hc
      simp [execOp, hop, Instr.build, hz1, run_underlying hu, hpr, hc']
  · rename_i n el hu
    split at hm <;> first | (cases hm; done) | skip
    rename_i zz hsz
    cases hp : arrParts zz parts.toList with
    | none => simp [hp] at hm
    | some ps =>
      simp [hp] at hm
      refine fin ps (fun i => some (i * zz, zz)) hm.symm (arrParts_ok _ hR hp) fun cells' hc => ?_
      have hs := tySize_run hsz w
      simp [execOp, hop, Instr.build, hz1, run_underlying hu, hs, hc]
end
end Go.Proofs.Ytnccnmeecngopaa.Fw
