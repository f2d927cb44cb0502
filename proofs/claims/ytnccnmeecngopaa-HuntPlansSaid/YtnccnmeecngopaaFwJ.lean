/- The abstract evaluator, part J: an operation that is no call does what 'opSem' says. -/
import Derived.Test.YtnccnmeecngopaaFwI
set_option linter.unusedVariables false
set_option linter.unusedSimpArgs false
namespace Go.Proofs.Ytnccnmeecngopaa.Fw
open Go Go.RowKit

/-- What lies less deep, and is not in the memory at hand, stays: as it is named, and as it stands. -/
def Fr (D : Nat) (H : Heap) (ρ : Map) (w : World) (H' : Heap) (ρ' : Map) (w' : World) : Prop :=
  ∀ s, s.d < D → H.get s = none → H'.get s = none ∧ ρ' s = ρ s ∧ ∀ b z st, ρ s = some (b, z, st) → w'.heap[b]? = w.heap[b]?
theorem Fr.same {D : Nat} {H : Heap} {ρ : Map} {w w' : World} (h : ∀ b, b < w.heap.size → w'.heap[b]? = w.heap[b]?) (hb : ∀ s b z st, ρ s = some (b, z, st) → b < w.heap.size) : Fr D H ρ w H ρ w' :=
  fun s _ hs => ⟨hs, rfl, fun b z st e => h b (hb s b z st e)⟩
theorem Fr.trans {D D' : Nat} {H1 H2 H3 : Heap} {ρ1 ρ2 ρ3 : Map} {w1 w2 w3 : World} (h : Fr D H1 ρ1 w1 H2 ρ2 w2) (k : Fr D' H2 ρ2 w2 H3 ρ3 w3) (hd : D ≤ D') : Fr D H1 ρ1 w1 H3 ρ3 w3 := by
  intro s hs h1
  obtain ⟨a1, a2, a3⟩ := h s hs h1
  obtain ⟨b1, b2, b3⟩ := k s (by omega) a1
  exact ⟨b1, b2.trans a2, fun b z st e => (b3 b z st (by rw [a2]; exact e)).trans (a3 b z st e)⟩
theorem Fr.set {D B : Nat} {H : Heap} {ρ : Map} {old : List Nat → Prop} {w w' : World} (hH : HRel B ρ old w H) (x : Site) (b : Nat) (blk : Blk) (hx : ¬ x.d < D ∨ ∃ c, H.get x = some c) (hb : (∃ z st, ρ x = some (b, z, st)) ∨ w.heap.size ≤ b)
    (hsame : ∀ k, k < w.heap.size → k ≠ b → w'.heap[k]? = w.heap[k]?) (y : Nat × Nat × List Nat) : Fr D H ρ w (H.set x blk) (ρ.upd x y) w' := by
  intro s hs h1
  have hne : x ≠ s := by
    rintro rfl
    rcases hx with h | ⟨c, h⟩
    · exact h hs
    · rw [h1] at h; cases h
  refine ⟨by rw [Heap.get_set, if_neg hne]; exact h1, by simp [Map.upd, hne], fun b' z st e => hsame b' (hH.inb _ _ _ _ e).2 ?_⟩
  rintro rfl
  rcases hb with ⟨z0, st0, e0⟩ | hge
  · exact hne (hH.inj _ _ _ _ _ _ _ e0 e)
  · have := (hH.inb _ _ _ _ e).2; omega

/-- What an operation does: it leaves a value that 'v' describes, memory that 'H'' describes; only what is owned, or new, has changed. -/
def Does (P : Program) (B D : Nat) (H : Heap) (ρ : Map) (old : List Nat → Prop) (w : World) (st : List Nat) (ρe : Operand → Value) (o : Oper) (v : AV) (H' : Heap) : Prop :=
  ∃ r u w' ρ' old', (execOp ρe o).run P w = .ok r w' ∧ (r = .value u ∨ (r = .skip ∧ u = undef)) ∧ Keep ρ ρ' old old' w w' ∧ RelV ρ' old' w' v u ∧
    HRel B ρ' old' w' H' ∧ Below B w w' ∧ (∀ s, old' s → old s ∨ s = st) ∧ ρ'.av = ρ.av ∧ Fr D H ρ w H' ρ' w'

section
variable {P : Program} {B D : Nat} {ρ : Map} {old : List Nat → Prop} {w : World} {st : List Nat} {H : Heap}

theorem Does.pure {ρe : Operand → Value} {o : Oper} {v : AV} {s : Sem Value} (hH : HRel B ρ old w H) (hy : Yields P ρ old w s v)
    (he : ∀ w, (execOp ρe o).run P w = (s.run P w).andThen fun u w => .ok (.value u) w) : Does P B D H ρ old w st ρe o v H := by
  obtain ⟨u, w', h1, h2, h3⟩ := hy
  obtain ⟨k, hH'⟩ := hH.same (w' := w') (old' := old) (fun k _ => by rw [h2.heap]) (fun _ h => h)
  exact ⟨.value u, u, w', ρ, old, by rw [he, h1]; rfl, .inl rfl, k, RelV.mono k _ _ h3, hH', h2.below B, fun s h => .inl h, rfl, Fr.same (fun b _ => by rw [h2.heap]) fun s b z st e => (hH.inb _ _ _ _ e).2⟩
theorem Does.val {ρe : Operand → Value} {o : Oper} {v : AV} {u : Value} (hH : HRel B ρ old w H) (h : (execOp ρe o).run P w = .ok (.value u) w) (hr : RelV ρ old w v u) : Does P B D H ρ old w st ρe o v H := by
  obtain ⟨k, hH'⟩ := hH.same (w' := w) (old' := old) (fun k _ => rfl) (fun _ h => h)
  exact ⟨.value u, u, w, ρ, old, h, .inl rfl, k, hr, hH', Below.refl B w, fun s h => .inl h, rfl, Fr.same (fun b _ => rfl) fun s b z st e => (hH.inb _ _ _ _ e).2⟩

/-- a new block -/
theorem Does.fresh {ρe : Operand → Value} {o : Oper} {v : AV} {u : Value} (hH : HRel B ρ old w H) (hB : B ≤ w.heap.size) (hst : ¬ old st) (own : Site) (blk : Blk) (hs : blk.st = st) (c : Array Value) (ty : TypeId) {w1 : World}
    (hw1 : w1.heap = w.heap ∧ w1.os = w.os ∧ w1.tape = w.tape ∧ w1.output = w.output)
    (h : (execOp ρe o).run P w = .ok (.value u) (w1.alloc (.cells c ty (0, 0)))) (hc : CellsRel (RelV ρ old w) blk c)
    (hr : ∀ ρ' old' (w' : World), ρ' own = some (w.heap.size, blk.z, st) → old' st → w'.shape? w.heap.size = some (ty, c.size) → RelV ρ' old' w' v u) (hx : ¬ own.d < D ∨ ∃ c, H.get own = some c := by exact .inl (by omega)) : Does P B D H ρ old w st ρe o v (H.set own blk) := by
  have hw : w1.heap.size = w.heap.size := by rw [hw1.1]
  obtain ⟨k, hH'⟩ := hH.set (old' := fun s => old s ∨ s = st) (w' := w1.alloc (.cells c ty (0, 0))) own w.heap.size blk (.inr (Nat.le_refl _)) hB (.inr (by rw [hs]; exact hst))
    (fun k hk _ => by rw [Below.heap_alloc _ _ _ (by omega), hw1.1]) (fun e => by have := (hH.lt ⟨_, _, _, e⟩).2; omega) (fun _ h => .inl h) (.inr hs) ⟨c, ty, by show (w1.heap.push _)[w.heap.size]? = _; rw [← hw, Array.getElem?_push_size], hc⟩
  refine ⟨.value u, u, _, _, _, h, .inl rfl, k, hr _ _ _ (by simp [Map.upd, hs]) (.inr rfl) (by unfold World.shape?; rw [show (w1.alloc (.cells c ty (0, 0))).heap[w.heap.size]? = some (.cells c ty (0, 0)) from by show (w1.heap.push _)[w.heap.size]? = _; rw [← hw, Array.getElem?_push_size]]), hH', ?_, fun s h => h, rfl, Fr.set hH own w.heap.size blk hx (.inr (Nat.le_refl _)) (fun k hk _ => by rw [Below.heap_alloc _ _ _ (by omega), hw1.1]) _⟩
  exact ⟨hw1.2.1, hw1.2.2.1, hw1.2.2.2, by show _ ≤ (w1.heap.push _).size; rw [Array.size_push]; omega, fun k hk => by rw [Below.heap_alloc _ _ _ (by omega), hw1.1]⟩


theorem setRow_get (w : World) (g : Nat) (cur : Array Value) (t : TypeId) (fr : Nat × Nat) (new : Array Value) (h : w.heap[g]? = some (.cells cur t fr)) : (w.setRow g new).heap[g]? = some (.cells new t fr) := setRow_heap w g cur new t fr h
theorem setRow_other (w : World) (g : Nat) (new : Array Value) {k : Nat} (h : k ≠ g) : (w.setRow g new).heap[k]? = w.heap[k]? := by
  simp only [World.setRow, Array.getElem?_modify]
  rw [if_neg (by omega)]
theorem setRow_size (w : World) (g : Nat) (new : Array Value) : (w.setRow g new).heap.size = w.heap.size := by simp [World.setRow]

/-- a block of one's own is written. -/
theorem Does.write {ρe : Operand → Value} {o : Oper} {v : AV} {r : Next} {u : Value} (hH : HRel B ρ old w H) (s : Site) (b : Nat) (st0 : List Nat) (blk : Blk) (c0 c : Array Value) (ty : TypeId)
    (hin : ∃ c, H.get s = some c) (hρ : ρ s = some (b, blk.z, st0)) (hB : B ≤ b) (hstamp : blk.st = st0 ∨ (blk.st = st ∧ ¬ old st)) (hst0 : old st0) (hb : w.heap[b]? = some (.cells c0 ty (0, 0)))
    (h : (execOp ρe o).run P w = .ok r (w.setRow b c)) (hru : r = .value u ∨ (r = .skip ∧ u = undef)) (hc : CellsRel (RelV ρ old w) blk c) (hsz : c.size = c0.size)
    (hr : ∀ ρ' old' w', Keep ρ ρ' old old' w w' → ρ' s = some (b, blk.z, blk.st) → old' blk.st → w'.shape? b = some (ty, c.size) → RelV ρ' old' w' v u) : Does P B D H ρ old w st ρe o v (H.set s blk) := by
  have hsh : (w.setRow b c).shape? b = some (ty, c.size) := by unfold World.shape?; rw [setRow_get w b c0 ty (0, 0) c hb]
  have hnew : old blk.st ∨ blk.st = st := by
    rcases hstamp with e | ⟨e, _⟩
    · exact .inl (by rw [e]; exact hst0)
    · exact .inr e
  have hmap : ρ s = some (b, blk.z, blk.st) ∨ ¬ old blk.st := by
    rcases hstamp with e | ⟨e, hn⟩
    · exact .inl (by rw [e]; exact hρ)
    · exact .inr (by rw [e]; exact hn)
  obtain ⟨k, hH'⟩ := hH.set (old' := fun s => old s ∨ s = st) (w' := w.setRow b c) s b blk (.inl ⟨_, _, hρ⟩) hB hmap
    (fun k _ hne => setRow_other w b c hne) (fun _ => by rw [hsh, hsz]; unfold World.shape?; rw [hb]) (fun _ h => .inl h) hnew ⟨c, ty, setRow_get w b c0 ty (0, 0) c hb, hc⟩
  refine ⟨r, u, _, _, _, h, hru, k, hr _ _ _ k (by simp [Map.upd]) hnew hsh, hH', ?_, fun s h => h, rfl, Fr.set hH s b blk (.inr hin) (.inl ⟨_, _, hρ⟩) (fun k _ hne => setRow_other w b c hne) _⟩
  exact ⟨rfl, rfl, rfl, by rw [setRow_size]; exact Nat.le_refl _, fun k hk => setRow_other w b c (by omega)⟩

theorem setRow_def (w : World) (b : Nat) (c : Array Value) : (w.setRow b c).os = w.os := rfl
end
end Go.Proofs.Ytnccnmeecngopaa.Fw
