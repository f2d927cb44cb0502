/- The abstract evaluator, part D: what a value of the evaluator says of a value of the machine. -/
import Derived.Test.YtnccnmeecngopaaFwC
set_option linter.unusedVariables false
namespace Go.Proofs.Ytnccnmeecngopaa.Fw
open Go

/-- where a place of the evaluator lies: block, cells of an element, stamp -/
structure Map where
  m : Site → Option (Nat × Nat × List Nat)
  /-- other blocks that what is read by value must not lie in -/
  av : Nat → Prop
instance : CoeFun Map (fun _ => Site → Option (Nat × Nat × List Nat)) := ⟨Map.m⟩
def owned (ρ : Map) (b : Nat) : Prop := ρ.av b ∨ ∃ s z st, ρ s = some (b, z, st)

mutual
def RelV (ρ : Map) (old : List Nat → Prop) (w : World) : AV → Value → Prop
  | .v x, y => y = x
  | .flt a, y => ∃ b, y = .float .f64 b ∧ canon b = a
  | .cpx a b, y => ∃ c d, y = .complex .f64 c d ∧ canon c = a ∧ canon d = b
  | .ptr s st i off, y => old st ∧ ∃ p, y = .pointer (some p) ∧ ∀ b z, ρ s = some (b, z, st) → p = ⟨b, i * z + off, none⟩
  | .imm cs, y => ∃ b o, y = .pointer (some ⟨b, o, none⟩) ∧ RelCells ρ old w b o cs
  | .slc s st z off len full, y => old st ∧ ∃ p cap, y = .slice (some p) len cap ∧ len ≤ cap ∧ (full = true → cap = len) ∧
      ∀ b z', ρ s = some (b, z', st) → z' = z ∧ (0 < cap → p = ⟨b, off * z, none⟩) ∧ ∃ ty n, w.shape? b = some (ty, n) ∧ (off + cap) * z ≤ n
  | .lst z els, y => ∃ p cap, y = .slice (some p) els.length cap ∧ els.length ≤ cap ∧ (els ≠ [] → p.spot = none) ∧ RelEls ρ old w p.block p.off z els
  | .nils, y => y = .slice none 0 0
  | .fn f a b, y => ∃ a' b', y = .func f a' b' ∧ RelL ρ old w a a'.toList ∧ RelL ρ old w b b'.toList
  | .agg cs, y => ∃ ys, y = .agg ys ∧ RelL ρ old w cs ys.toList
  | .tup vs, y => ∃ ys, y = .tuple ys ∧ RelL ρ old w vs ys.toList
  | .own .., _ => False
  | .ownp .., _ => False
  | .junk, _ => True
def RelL (ρ : Map) (old : List Nat → Prop) (w : World) : List AV → List Value → Prop
  | [], [] => True
  | a :: r, y :: s => RelV ρ old w a y ∧ RelL ρ old w r s
  | [], _ :: _ => False
  | _ :: _, [] => False
def RelCells (ρ : Map) (old : List Nat → Prop) (w : World) (b o : Nat) : List AV → Prop
  | [] => True
  | a :: r => a.cl = true ∧ ¬ owned ρ b ∧ (∃ u, w.cell? ⟨b, o, none⟩ = some u ∧ RelV ρ old w a u) ∧ RelCells ρ old w b (o + 1) r
def RelEls (ρ : Map) (old : List Nat → Prop) (w : World) (b o z : Nat) : List (List AV) → Prop
  | [] => True
  | e :: r => e.length = z ∧ RelCells ρ old w b o e ∧ RelEls ρ old w b (o + z) z r
end

/-! ### from one state to a later one -/
structure Keep (ρ ρ' : Map) (old old' : List Nat → Prop) (w w' : World) : Prop where
  stable : ∀ b, b < w.heap.size → ¬ owned ρ b → w'.heap[b]? = w.heap[b]? ∧ ¬ owned ρ' b
  refs : ∀ s b z st, ρ' s = some (b, z, st) → old st → ρ s = some (b, z, st)
  olds : ∀ st, old st → old' st
  sizes : ∀ s b z st, ρ' s = some (b, z, st) → old st → w'.shape? b = w.shape? b

theorem cell_lt {w : World} {b o : Nat} {u : Value} (h : w.cell? ⟨b, o, none⟩ = some u) : b < w.heap.size := by
  unfold World.cell? at h
  split at h
  · rename_i c e f hh
    exact (Array.getElem?_eq_some_iff.1 hh).1
  · cases h
theorem cell_of_heap {w w' : World} {b o : Nat} (h : w'.heap[b]? = w.heap[b]?) : w'.cell? ⟨b, o, none⟩ = w.cell? ⟨b, o, none⟩ := by
  unfold World.cell?
  rw [h]

section
variable {ρ ρ' : Map} {old old' : List Nat → Prop} {w w' : World}
mutual
theorem RelV.mono (k : Keep ρ ρ' old old' w w') : ∀ (a : AV) (y : Value), RelV ρ old w a y → RelV ρ' old' w' a y
  | .v x, y, h => by simpa only [RelV] using h
  | .flt a, y, h => by simpa only [RelV] using h
  | .cpx a b, y, h => by simpa only [RelV] using h
  | .ptr s st i off, y, h => by
    simp only [RelV] at h ⊢
    obtain ⟨ho, p, e, h2⟩ := h
    exact ⟨k.olds _ ho, p, e, fun b z hb => h2 b z (k.refs _ _ _ _ hb ho)⟩
  | .imm cs, y, h => by
    simp only [RelV] at h ⊢
    obtain ⟨b, o, e, hc⟩ := h
    exact ⟨b, o, e, RelCells.mono k b o cs hc⟩
  | .slc s st z off len full, y, h => by
    simp only [RelV] at h ⊢
    obtain ⟨ho, p, cap, e, h1, h2, h3⟩ := h
    refine ⟨k.olds _ ho, p, cap, e, h1, h2, fun b z' hb => ?_⟩
    rw [k.sizes _ _ _ _ hb ho]
    exact h3 b z' (k.refs _ _ _ _ hb ho)
  | .lst z els, y, h => by
    simp only [RelV] at h ⊢
    obtain ⟨p, cap, e, h1, h2, h3⟩ := h
    exact ⟨p, cap, e, h1, h2, RelEls.mono k _ _ z els h3⟩
  | .nils, y, h => by simpa only [RelV] using h
  | .fn f a b, y, h => by
    simp only [RelV] at h ⊢
    obtain ⟨a', b', e, h1, h2⟩ := h
    exact ⟨a', b', e, RelL.mono k a _ h1, RelL.mono k b _ h2⟩
  | .agg cs, y, h => by
    simp only [RelV] at h ⊢
    obtain ⟨ys, e, h1⟩ := h
    exact ⟨ys, e, RelL.mono k cs _ h1⟩
  | .tup vs, y, h => by
    simp only [RelV] at h ⊢
    obtain ⟨ys, e, h1⟩ := h
    exact ⟨ys, e, RelL.mono k vs _ h1⟩
  | .own .., y, h => by simp only [RelV] at h
  | .ownp .., y, h => by simp only [RelV] at h
  | .junk, y, h => by simp only [RelV]
theorem RelL.mono (k : Keep ρ ρ' old old' w w') : ∀ (l : List AV) (ys : List Value), RelL ρ old w l ys → RelL ρ' old' w' l ys
  | [], [], h => by simp only [RelL]
  | a :: r, y :: s, h => by
    simp only [RelL] at h ⊢
    exact ⟨RelV.mono k a y h.1, RelL.mono k r s h.2⟩
  | [], _ :: _, h => by simp only [RelL] at h
  | _ :: _, [], h => by simp only [RelL] at h
theorem RelCells.mono (k : Keep ρ ρ' old old' w w') : ∀ (b o : Nat) (l : List AV), RelCells ρ old w b o l → RelCells ρ' old' w' b o l
  | b, o, [], h => by simp only [RelCells]
  | b, o, a :: r, h => by
    simp only [RelCells] at h ⊢
    obtain ⟨h1, h2, ⟨u, hu, hr⟩, h4⟩ := h
    have := k.stable b (cell_lt hu) h2
    exact ⟨h1, this.2, ⟨u, by rw [cell_of_heap this.1]; exact hu, RelV.mono k a u hr⟩, RelCells.mono k b (o + 1) r h4⟩
theorem RelEls.mono (k : Keep ρ ρ' old old' w w') : ∀ (b o z : Nat) (l : List (List AV)), RelEls ρ old w b o z l → RelEls ρ' old' w' b o z l
  | b, o, z, [], h => by simp only [RelEls]
  | b, o, z, e :: r, h => by
    simp only [RelEls] at h ⊢
    exact ⟨h.1, RelCells.mono k b o e h.2.1, RelEls.mono k b (o + z) z r h.2.2⟩
end

/-! a value without refs, seen from elsewhere in the same world -/
mutual
theorem RelV.closed (hn : ∀ b, b < w.heap.size → ¬ owned ρ b → ¬ owned ρ' b) : ∀ (a : AV) (y : Value), a.cl = true → RelV ρ old w a y → RelV ρ' old' w a y
  | .v x, y, _, h => by simpa only [RelV] using h
  | .flt a, y, _, h => by simpa only [RelV] using h
  | .cpx a b, y, _, h => by simpa only [RelV] using h
  | .ptr .., y, hc, h => by simp [AV.cl] at hc
  | .imm cs, y, hc, h => by
    simp only [RelV] at h ⊢
    obtain ⟨b, o, e, hc⟩ := h
    exact ⟨b, o, e, RelCells.closed hn b o cs hc⟩
  | .slc .., y, hc, h => by simp [AV.cl] at hc
  | .lst z els, y, hc, h => by
    simp only [RelV] at h ⊢
    obtain ⟨p, cap, e, h1, h2, h3⟩ := h
    exact ⟨p, cap, e, h1, h2, RelEls.closed hn _ _ z els h3⟩
  | .nils, y, _, h => by simpa only [RelV] using h
  | .fn f a b, y, hc, h => by
    simp only [RelV] at h ⊢
    simp only [AV.cl, Bool.and_eq_true] at hc
    obtain ⟨a', b', e, h1, h2⟩ := h
    exact ⟨a', b', e, RelL.closed hn a _ hc.1 h1, RelL.closed hn b _ hc.2 h2⟩
  | .agg cs, y, hc, h => by
    simp only [RelV] at h ⊢
    simp only [AV.cl] at hc
    obtain ⟨ys, e, h1⟩ := h
    exact ⟨ys, e, RelL.closed hn cs _ hc h1⟩
  | .tup vs, y, hc, h => by
    simp only [RelV] at h ⊢
    simp only [AV.cl] at hc
    obtain ⟨ys, e, h1⟩ := h
    exact ⟨ys, e, RelL.closed hn vs _ hc h1⟩
  | .own .., y, _, h => by simp only [RelV] at h
  | .ownp .., y, _, h => by simp only [RelV] at h
  | .junk, y, hc, h => by simp [AV.cl] at hc
theorem RelL.closed (hn : ∀ b, b < w.heap.size → ¬ owned ρ b → ¬ owned ρ' b) : ∀ (l : List AV) (ys : List Value), AV.clL l = true → RelL ρ old w l ys → RelL ρ' old' w l ys
  | [], [], _, h => by simp only [RelL]
  | a :: r, y :: s, hc, h => by
    simp only [RelL] at h ⊢
    simp only [AV.clL, Bool.and_eq_true] at hc
    exact ⟨RelV.closed hn a y hc.1 h.1, RelL.closed hn r s hc.2 h.2⟩
  | [], _ :: _, _, h => by simp only [RelL] at h
  | _ :: _, [], _, h => by simp only [RelL] at h
theorem RelCells.closed (hn : ∀ b, b < w.heap.size → ¬ owned ρ b → ¬ owned ρ' b) : ∀ (b o : Nat) (l : List AV), RelCells ρ old w b o l → RelCells ρ' old' w b o l
  | b, o, [], h => by simp only [RelCells]
  | b, o, a :: r, h => by
    simp only [RelCells] at h ⊢
    obtain ⟨h1, h2, ⟨u, hu, hr⟩, h4⟩ := h
    exact ⟨h1, hn b (cell_lt hu) h2, ⟨u, hu, RelV.closed hn a u h1 hr⟩, RelCells.closed hn b (o + 1) r h4⟩
theorem RelEls.closed (hn : ∀ b, b < w.heap.size → ¬ owned ρ b → ¬ owned ρ' b) : ∀ (b o z : Nat) (l : List (List AV)), RelEls ρ old w b o z l → RelEls ρ' old' w b o z l
  | b, o, z, [], h => by simp only [RelEls]
  | b, o, z, e :: r, h => by
    simp only [RelEls] at h ⊢
    exact ⟨h.1, RelCells.closed hn b o e h.2.1, RelEls.closed hn b (o + z) z r h.2.2⟩
end
end

/-! ### memory -/
def CellsRel (R : AV → Value → Prop) (blk : Blk) (c : Array Value) : Prop :=
  ∀ i e, blk.els[i]? = some e → e.length = blk.z ∧ ∀ j v, e[j]? = some v → (blk.leaf = true → v.dry = true) ∧ ∃ u, c[i * blk.z + j]? = some u ∧ R v u

structure HRel (B : Nat) (ρ : Map) (old : List Nat → Prop) (w : World) (H : Heap) : Prop where
  there : ∀ s blk, H.get s = some blk → ∃ b, ρ s = some (b, blk.z, blk.st) ∧ B ≤ b ∧ old blk.st ∧ ∃ c ty, w.heap[b]? = some (.cells c ty (0, 0)) ∧ CellsRel (RelV ρ old w) blk c
  inb : ∀ s b z st, ρ s = some (b, z, st) → B ≤ b ∧ b < w.heap.size
  inj : ∀ s s' b z z' st st', ρ s = some (b, z, st) → ρ s' = some (b, z', st') → s = s'

theorem Heap.get_set (H : Heap) (s s' : Site) (b : Blk) : (H.set s b).get s' = if s = s' then some b else H.get s' := by
  induction H with
  | nil => simp [Heap.set, Heap.get]
  | cons x r ih =>
    obtain ⟨k, c⟩ := x
    simp only [Heap.set]
    by_cases h : k = s
    · subst h
      simp only [if_true, Heap.get]
      by_cases h2 : k = s' <;> simp [h2]
    · simp only [h, if_false, Heap.get, ih]
      by_cases h2 : k = s'
      · subst h2; simp [Ne.symm h]
      · simp [h2]

theorem HRel.lt {B : Nat} {ρ : Map} {old : List Nat → Prop} {w : World} {H : Heap} (h : HRel B ρ old w H) {b : Nat} (hb : ∃ s z st, ρ s = some (b, z, st)) : B ≤ b ∧ b < w.heap.size := by
  obtain ⟨s, z, st, e⟩ := hb
  exact h.inb _ _ _ _ e
theorem lt_of_same {w w' : World} {b : Nat} (h : b < w.heap.size) (e : w'.heap[b]? = w.heap[b]?) : b < w'.heap.size := by
  rw [Array.getElem?_eq_getElem h] at e
  exact (Array.getElem?_eq_some_iff.1 e).1

def Map.upd (ρ : Map) (s : Site) (x : Nat × Nat × List Nat) : Map := ⟨fun s' => if s = s' then some x else ρ s', ρ.av⟩

theorem CellsRel.mono {R R' : AV → Value → Prop} {blk : Blk} {c : Array Value} (h : CellsRel R blk c) (hr : ∀ v u, R v u → R' v u) : CellsRel R' blk c := fun i e he => by
  obtain ⟨h1, h2⟩ := h i e he
  refine ⟨h1, fun j v hv => ?_⟩
  obtain ⟨h3, u, h4, h5⟩ := h2 j v hv
  exact ⟨h3, u, h4, hr _ _ h5⟩

/-- one place is set: a new block, a store, an append. -/
theorem HRel.set {B : Nat} {ρ : Map} {old old' : List Nat → Prop} {w w' : World} {H : Heap} (h : HRel B ρ old w H) (s : Site) (b : Nat) (blk : Blk)
    (hb : (∃ z st, ρ s = some (b, z, st)) ∨ w.heap.size ≤ b) (hB : B ≤ b)
    (hst : ρ s = some (b, blk.z, blk.st) ∨ ¬ old blk.st)
    (hsame : ∀ k, k < w.heap.size → k ≠ b → w'.heap[k]? = w.heap[k]?) (hsize : ρ s = some (b, blk.z, blk.st) → w'.shape? b = w.shape? b)
    (holds : ∀ st, old st → old' st) (hnew : old' blk.st)
    (hc : ∃ c ty, w'.heap[b]? = some (.cells c ty (0, 0)) ∧ CellsRel (RelV ρ old w) blk c) :
    Keep ρ (ρ.upd s (b, blk.z, blk.st)) old old' w w' ∧ HRel B (ρ.upd s (b, blk.z, blk.st)) old' w' (H.set s blk) := by
  have nb : ∀ s' z st, s' ≠ s → ρ s' = some (b, z, st) → False := by
    intro s' z st hne e
    rcases hb with ⟨z0, st0, e0⟩ | hge
    · exact hne (h.inj _ _ _ _ _ _ _ e e0)
    · have := (h.lt ⟨s', z, st, e⟩).2; omega
  have k : Keep ρ (ρ.upd s (b, blk.z, blk.st)) old old' w w' := by
    refine ⟨fun b' hlt hno => ?_, fun s' b' z' st' e ho => ?_, holds, fun s' b' z' st' e ho => ?_⟩
    · have hne : b' ≠ b := by
        rintro rfl
        rcases hb with ⟨z0, st0, e0⟩ | hge
        · exact hno (.inr ⟨s, z0, st0, e0⟩)
        · omega
      refine ⟨hsame b' hlt hne, ?_⟩
      rintro (hav | ⟨s', z', st', e⟩)
      · exact hno (.inl hav)
      · simp only [Map.upd] at e
        split at e
        · cases e; exact hne rfl
        · exact hno (.inr ⟨s', z', st', e⟩)
    · simp only [Map.upd] at e
      split at e
      · rename_i hs
        subst hs
        cases e
        rcases hst with h1 | h1
        · exact h1
        · exact absurd ho h1
      · exact e
    · simp only [Map.upd] at e
      split at e
      · rename_i hs
        subst hs
        cases e
        rcases hst with h1 | h1
        · exact hsize h1
        · exact absurd ho h1
      · rename_i hs
        unfold World.shape?
        rw [hsame b' (h.lt ⟨s', z', st', e⟩).2 (by rintro rfl; exact nb s' _ _ (Ne.symm hs) e)]
  refine ⟨k, ⟨fun s' blk' hg => ?_, fun s' b' z' st' e => ?_, fun s1 s2 b' z z' st st' e1 e2 => ?_⟩⟩
  · rw [Heap.get_set] at hg
    by_cases hs : s = s'
    · subst hs
      simp only [if_true] at hg
      cases hg
      obtain ⟨c, ty, h1, h2⟩ := hc
      exact ⟨b, by simp [Map.upd], hB, hnew, c, ty, h1, h2.mono fun v u hv => RelV.mono k v u hv⟩
    · simp only [hs, if_false] at hg
      obtain ⟨b', e, h1, h2, c, ty, h3, h4⟩ := h.there s' blk' hg
      refine ⟨b', by simp [Map.upd, hs, e], h1, holds _ h2, c, ty, ?_, h4.mono fun v u hv => RelV.mono k v u hv⟩
      rw [hsame b' (Array.getElem?_eq_some_iff.1 h3).1 (by rintro rfl; exact nb s' _ _ (Ne.symm hs) e)]
      exact h3
  · simp only [Map.upd] at e
    split at e
    · cases e
      obtain ⟨c, ty, h1, _⟩ := hc
      exact ⟨hB, (Array.getElem?_eq_some_iff.1 h1).1⟩
    · rename_i hs
      obtain ⟨h1, h2⟩ := h.inb _ _ _ _ e
      exact ⟨h1, lt_of_same h2 (hsame b' h2 (by rintro rfl; exact nb s' _ _ (Ne.symm hs) e))⟩
  · simp only [Map.upd] at e1 e2
    split at e1 <;> split at e2
    · rename_i a1 a2; exact a1.symm.trans a2
    · rename_i a1 a2; cases e1; exact (nb s2 _ _ (Ne.symm a2) e2).elim
    · rename_i a1 a2; cases e2; exact (nb s1 _ _ (Ne.symm a1) e1).elim
    · exact h.inj _ _ _ _ _ _ _ e1 e2

/-- nothing is set. -/
theorem HRel.same {B : Nat} {ρ : Map} {old old' : List Nat → Prop} {w w' : World} {H : Heap} (h : HRel B ρ old w H)
    (hsame : ∀ k, k < w.heap.size → w'.heap[k]? = w.heap[k]?) (holds : ∀ st, old st → old' st) : Keep ρ ρ old old' w w' ∧ HRel B ρ old' w' H := by
  have k : Keep ρ ρ old old' w w' := ⟨fun b hlt hno => ⟨hsame b hlt, hno⟩, fun _ _ _ _ e _ => e, holds, fun s b z st e _ => by unfold World.shape?; rw [hsame b (h.lt ⟨s, z, st, e⟩).2]⟩
  refine ⟨k, ⟨fun s blk hg => ?_, fun s b z st e => ⟨(h.inb _ _ _ _ e).1, lt_of_same (h.inb _ _ _ _ e).2 (hsame b (h.inb _ _ _ _ e).2)⟩, h.inj⟩⟩
  obtain ⟨b, e, h1, h2, c, ty, h3, h4⟩ := h.there s blk hg
  exact ⟨b, e, h1, holds _ h2, c, ty, by rw [hsame b (Array.getElem?_eq_some_iff.1 h3).1]; exact h3, h4.mono fun v u hv => RelV.mono k v u hv⟩
end Go.Proofs.Ytnccnmeecngopaa.Fw
