/- The abstract evaluator, part I: cells, loads, stores, addresses. -/
import Derived.Test.YtnccnmeecngopaaFwH
set_option linter.unusedVariables false
set_option linter.unusedSimpArgs false
namespace Go.Proofs.Ytnccnmeecngopaa.Fw
open Go

theorem add_at (b o k : Nat) : (⟨b, o, none⟩ : Addr).add k = ⟨b, o + k, none⟩ := by unfold Addr.add; split <;> simp_all

section
variable {P : Program} {ρ : Map} {old : List Nat → Prop} {w : World}

/-- the cells from (b, o) on are as the list says -/
def CellsAt (R : AV → Value → Prop) (w : World) (b o : Nat) (cs : List AV) : Prop := ∀ j v, cs[j]? = some v → ∃ u, w.cell? ⟨b, o + j, none⟩ = some u ∧ R v u

theorem RelCells.at {b : Nat} : ∀ {o : Nat} {cs : List AV}, RelCells ρ old w b o cs → CellsAt (RelV ρ old w) w b o cs
  | o, [], h => fun j v hv => by simp at hv
  | o, a :: r, h => fun j v hv => by
    simp only [RelCells] at h
    cases j with
    | zero =>
      simp at hv; subst hv
      exact h.2.2.1
    | succ j =>
      simp at hv
      obtain ⟨u, h1, h2⟩ := RelCells.at h.2.2.2 j v hv
      exact ⟨u, by rw [show o + (j + 1) = o + 1 + j by omega]; exact h1, h2⟩
theorem RelCells.drop {b : Nat} : ∀ {k o : Nat} {cs : List AV}, RelCells ρ old w b o cs → RelCells ρ old w b (o + k) (cs.drop k)
  | 0, o, cs, h => by simpa using h
  | k + 1, o, [], h => by simp only [List.drop_nil, RelCells]
  | k + 1, o, a :: r, h => by
    simp only [RelCells] at h
    have := RelCells.drop (k := k) h.2.2.2
    simpa [show o + (k + 1) = o + 1 + k by omega] using this
theorem HRel.at {B : Nat} {H : Heap} (h : HRel B ρ old w H) {s : Site} {st : List Nat} {blk : Blk} (hr : H.row s st = some blk) :
    ∃ b, ρ s = some (b, blk.z, st) ∧ B ≤ b ∧ blk.st = st ∧ H.get s = some blk ∧ ∃ c ty, w.heap[b]? = some (.cells c ty (0, 0)) ∧ CellsRel (RelV ρ old w) blk c := by
  unfold Heap.row at hr
  split at hr
  · rename_i b' hg
    split at hr
    · rename_i hs
      cases hr
      obtain ⟨b, h1, h2, h3, h4⟩ := h.there s _ hg
      subst hs
      exact ⟨b, h1, h2, rfl, hg, h4⟩
    · cases hr
  · cases hr
theorem CellsRel.at {R : AV → Value → Prop} {blk : Blk} {c : Array Value} {b : Nat} {ty : TypeId} (h : CellsRel R blk c) (hb : w.heap[b]? = some (.cells c ty (0, 0))) {i : Nat} {cs : List AV} (hi : blk.els[i]? = some cs) :
    CellsAt R w b (i * blk.z) cs := fun j v hv => by
  obtain ⟨_, h2⟩ := h i cs hi
  obtain ⟨_, u, h3, h4⟩ := h2 j v hv
  exact ⟨u, by simp [World.cell?, hb, h3], h4⟩
theorem CellsAt.drop {R : AV → Value → Prop} {b o k : Nat} {cs : List AV} (h : CellsAt R w b o cs) : CellsAt R w b (o + k) (cs.drop k) := fun j v hv => by
  rw [List.getElem?_drop] at hv
  obtain ⟨u, h1, h2⟩ := h _ v hv
  exact ⟨u, by rw [Nat.add_assoc]; exact h1, h2⟩
theorem CellsAt.take {R : AV → Value → Prop} {b o k : Nat} {cs : List AV} (h : CellsAt R w b o cs) : CellsAt R w b o (cs.take k) := fun j v hv => by
  rw [List.getElem?_take] at hv
  split at hv
  · exact h j v hv
  · cases hv
theorem CellsAt.values {b : Nat} : ∀ {o : Nat} {cs : List AV}, CellsAt (RelV ρ old w) w b o cs → ∃ us : List Value, us.length = cs.length ∧ RelL ρ old w cs us ∧ ∀ j u, us[j]? = some u → w.cell? ⟨b, o + j, none⟩ = some u
  | o, [], h => ⟨[], rfl, by simp only [RelL], fun j u hu => by simp at hu⟩
  | o, a :: r, h => by
    obtain ⟨u, h1, h2⟩ := h 0 a rfl
    obtain ⟨us, h3, h4, h5⟩ := CellsAt.values (o := o + 1) (cs := r) fun j v hv => by
      obtain ⟨u, h1, h2⟩ := h (j + 1) v (by simpa using hv)
      exact ⟨u, by rw [show o + 1 + j = o + (j + 1) by omega]; exact h1, h2⟩
    refine ⟨u :: us, by simp [h3], by simp only [RelL]; exact ⟨h2, h4⟩, fun j x hx => ?_⟩
    cases j with
    | zero => simp at hx; subst hx; exact h1
    | succ j =>
      simp at hx
      rw [show o + (j + 1) = o + 1 + j by omega]; exact h5 j x hx

theorem tyLoad_run {t : TypeId} {agg : Bool} {n : Nat} (h : tyLoad P t = some (agg, n)) (w : World) : (isAgg t).run P w = .ok agg w ∧ (sizeOf t).run P w = .ok n w := by
  unfold tyLoad at h
  split at h
  · rename_i b m h1 h2
    cases h
    unfold tyAgg at h1
    unfold tySize at h2
    cases hi : P.info? t with
    | none => simp [hi] at h2
    | some i =>
      simp [hi] at h2
      refine ⟨?_, by simp [sizeOf, typeInfo, hi, h2]⟩
      split at h1
      · rename_i hu; cases h1; simp [isAgg, run_underlying hu]
      · rename_i hu; cases h1; simp [isAgg, run_underlying hu]
      · rename_i d n1 n2 hu
        cases h1
        unfold isAgg
        simp only [Sem.run_bind, run_underlying hu, Result.andThen_ok]
        cases d <;> first | rfl | exact absurd rfl (n1 _) | exact absurd rfl (n2 _ _)
      · cases h1
  · cases h
theorem tySize_run {t : TypeId} {n : Nat} (h : tySize P t = some n) (w : World) : (sizeOf t).run P w = .ok n w := by
  unfold tySize at h
  cases hi : P.info? t with
  | none => simp [hi] at h
  | some i => simp [hi] at h; simp [sizeOf, typeInfo, hi, h]
theorem tyBytes_run {t : TypeId} {n : Nat} (h : tyBytes P t = some n) (w : World) : ∃ i, P.info? t = some i ∧ i.bytes = n := by
  unfold tyBytes at h
  cases hi : P.info? t with
  | none => simp [hi] at h
  | some i => simp [hi] at h; exact ⟨i, rfl, h⟩
theorem tyZero_run {t : TypeId} {zv : List Value} (h : tyZero P t = some zv) (w : World) : ∃ z, (zeroValue t).run P w = .ok z w ∧ z.cells.toList = zv := by
  unfold tyZero at h
  split at h
  · rename_i i hi
    cases hz : i.zero with
    | none => simp [hz] at h
    | some z => simp [hz] at h; exact ⟨z, by simp [zeroValue, typeInfo, hi, hz], h⟩
  · cases h

theorem take_run {t : TypeId} {agg : Bool} {n : Nat} (ht : tyLoad P t = some (agg, n)) {b o off : Nat} {cs : List AV} {v : AV} (hc : CellsAt (RelV ρ old w) w b o cs) (h : takeCells agg n cs off = some v) :
    ∃ u, (loadVar t ⟨b, o + off, none⟩).run P w = .ok u w ∧ RelV ρ old w v u := by
  obtain ⟨h1, h2⟩ := tyLoad_run ht w
  unfold takeCells at h
  cases agg with
  | true =>
    simp only [if_true] at h
    split at h
    · rename_i hl
      cases h
      obtain ⟨us, l1, l2, l3⟩ := ((hc.drop (k := off)).take (k := n)).values
      have hn : us.length = n := by rw [l1]; simp; omega
      have hl := run_loadCells_list (P := P) w ⟨b, o + off, none⟩ us fun j u hu => by rw [add_at]; exact l3 j u hu
      rw [hn] at hl
      refine ⟨.agg us.toArray, ?_, by simp only [RelV]; exact ⟨_, rfl, by simpa using l2⟩⟩
      simp [loadVar, h1, h2, hl]
    · cases h
  | false =>
    simp only [Bool.false_eq_true, if_false] at h
    obtain ⟨u, h3, h4⟩ := hc off v h
    exact ⟨u, by simp [loadVar, h1, h3], h4⟩

theorem cell_one {a : AV} {y : Value} (hc : a.cell = true) (h : RelV ρ old w a y) : y.oneCell' = true := by
  cases a <;> simp only [AV.cell, Bool.false_eq_true] at hc <;> simp only [RelV] at h
  case v x => rw [h]; cases x <;> simp_all [Value.oneCell']
  case flt b => obtain ⟨_, rfl, _⟩ := h; rfl
  case cpx a b => obtain ⟨_, _, rfl, _⟩ := h; rfl
  case ptr => obtain ⟨_, _, rfl, _⟩ := h; rfl
  case imm => obtain ⟨_, _, rfl, _⟩ := h; rfl
  case slc => obtain ⟨_, _, _, rfl, _⟩ := h; rfl
  case lst => obtain ⟨_, _, rfl, _⟩ := h; rfl
  case nils => subst h; rfl
  case fn => obtain ⟨_, _, rfl, _⟩ := h; rfl
theorem cells_one : ∀ {cs : List AV} {ys : List Value}, allCell cs = true → RelL ρ old w cs ys → ∀ y ∈ ys, y.oneCell' = true
  | [], [], _, _ => by simp
  | a :: r, y :: s, hc, h => by
    simp only [allCell, Bool.and_eq_true] at hc
    simp only [RelL] at h
    intro z hz
    rcases List.mem_cons.1 hz with rfl | hz
    · exact cell_one hc.1 h.1
    · exact cells_one hc.2 h.2 z hz
  | [], _ :: _, _, h => by simp only [RelL] at h
  | _ :: _, [], _, h => by simp only [RelL] at h
theorem relL_length : ∀ {cs : List AV} {ys : List Value}, RelL ρ old w cs ys → ys.length = cs.length
  | [], [], _ => rfl
  | a :: r, y :: s, h => by simp only [RelL] at h; simp [relL_length h.2]
  | [], _ :: _, h => by simp only [RelL] at h
  | _ :: _, [], h => by simp only [RelL] at h
theorem relL_at : ∀ {cs : List AV} {ys : List Value}, RelL ρ old w cs ys → ∀ (j : Nat) (v : AV), cs[j]? = some v → ∃ u, ys[j]? = some u ∧ RelV ρ old w v u
  | [], [], _, j, v, h => by simp at h
  | a :: r, y :: s, h, j, v, hv => by
    simp only [RelL] at h
    cases j with
    | zero => simp at hv; subst hv; exact ⟨y, rfl, h.1⟩
    | succ j => simp at hv; obtain ⟨u, h1, h2⟩ := relL_at h.2 j v hv; exact ⟨u, by simpa using h1, h2⟩
  | [], _ :: _, h, _, _, _ => by simp only [RelL] at h
  | _ :: _, [], h, _, _, _ => by simp only [RelL] at h
/-- a value as cells -/
theorem cells_rel {x : AV} {u : Value} (hc : allCell (cellsOf x) = true) (h : RelV ρ old w x u) : RelL ρ old w (cellsOf x) u.cells.toList ∧ (∀ y ∈ u.cells.toList, y.oneCell' = true) ∧ u.cells.toList.length = (cellsOf x).length := by
  have key : RelL ρ old w (cellsOf x) u.cells.toList := by
    cases x with
    | agg cs =>
      simp only [RelV] at h
      obtain ⟨ys, rfl, h1⟩ := h
      exact h1
    | _ =>
      simp only [cellsOf, allCell, Bool.and_true] at hc ⊢
      have h1 := cell_one hc h
      have e : u.cells = #[u] := by cases u <;> simp_all [Value.cells, Value.oneCell']
      rw [e]
      simp only [RelL, and_true]
      exact h
  exact ⟨key, cells_one hc key, relL_length key⟩
theorem dry_cl {x : AV} (h : x.dry = true) : x.cl = true := by cases x <;> simp_all [AV.dry, AV.cl]
theorem clL_at : ∀ {cs : List AV}, dryL cs = true → ∀ (j : Nat) (v : AV), cs[j]? = some v → v.dry = true
  | [], _, j, v, h => by simp at h
  | a :: r, hc, j, v, h => by
    simp only [dryL, Bool.and_eq_true] at hc
    cases j with
    | zero => simp at h; subst h; exact hc.1
    | succ j => simp at h; exact clL_at hc.2 j v h
theorem clL_of : ∀ {cs : List AV}, (∀ (j : Nat) (v : AV), cs[j]? = some v → v.dry = true) → dryL cs = true
  | [], _ => rfl
  | a :: r, h => by
    simp only [dryL, Bool.and_eq_true]
    exact ⟨h 0 a rfl, clL_of fun j v hv => h (j + 1) v (by simpa using hv)⟩
end
end Go.Proofs.Ytnccnmeecngopaa.Fw
