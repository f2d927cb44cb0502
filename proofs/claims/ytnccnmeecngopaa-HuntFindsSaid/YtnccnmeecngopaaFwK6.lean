/- The abstract evaluator, part K6: rows that are made, appended to, copied into. -/
import Derived.Test.YtnccnmeecngopaaFwK5
import Derived.IntWalk
set_option linter.unusedVariables false
set_option linter.unusedSimpArgs false
namespace Go.Proofs.Ytnccnmeecngopaa.Fw
open Go Go.RowKit

section
variable {P : Program} {B : Nat} {ρ : Map} {old : List Nat → Prop} {w : World} {st : List Nat} {H H' : Heap} {own : Site} {e : Env} {a : Act} {o : Oper} {m : MOp} {v : AV}

theorem flat_length {z : Nat} : ∀ {els : List (List AV)}, allLen z els → (flat els).length = els.length * z
  | [], _ => by simp [flat]
  | c :: r, h => by
    have h1 := h c (by simp)
    have h2 := flat_length (z := z) (els := r) fun e he => h e (by simp [he])
    simp only [flat, List.length_append, List.length_cons, h1, h2, Nat.add_mul]; omega
theorem flat_append : ∀ (a b : List (List AV)), flat (a ++ b) = flat a ++ flat b
  | [], b => by simp [flat]
  | c :: r, b => by simp [flat, flat_append r b]
theorem allLen_rep (z n : Nat) (zs : List AV) (h : zs.length = z) : allLen z (List.replicate n zs) := fun e he => by
  rw [List.mem_replicate] at he; rw [he.2]; exact h
theorem flat_set {z : Nat} : ∀ {els : List (List AV)} {i : Nat} {new : List AV}, allLen z els → i < els.length → new.length = z → flat (els.set i new) = putCells (flat els) (i * z) new
  | [], i, new, _, h, _ => by simp at h
  | c :: r, 0, new, hl, _, hn => by
    have h1 := hl c (by simp)
    simp only [List.set_cons_zero, flat, putCells, Nat.zero_mul, List.take_zero, List.nil_append, Nat.zero_add, hn]
    rw [List.drop_append, List.drop_eq_nil_of_le (by omega)]
    simp [h1]
  | c :: r, i + 1, new, hl, h, hn => by
    have h1 := hl c (by simp)
    simp at h
    have ih := flat_set (z := z) (els := r) (i := i) (new := new) (fun e he => hl e (by simp [he])) h hn
    simp only [List.set_cons_succ, flat, ih, putCells]
    have e1 : (i + 1) * z = c.length + i * z := by rw [Nat.add_mul, h1]; omega
    rw [e1, List.take_append, List.drop_append]
    rw [List.take_of_length_le (show c.length ≤ c.length + i * z by omega), show c.length + i * z - c.length = i * z by omega, List.drop_eq_nil_of_le (show c.length ≤ c.length + i * z + new.length by omega), show c.length + i * z + new.length - c.length = i * z + new.length by omega]
    simp
theorem setEls_fill {z : Nat} : ∀ (ps : List (Nat × Opd)) (els els' : List (List AV)), allLen z els → setEls z els (evPartsS e ps) = some els' →
    allLen z els' ∧ els'.length = els.length ∧ fillParts (flat els) (evParts e (ps.map fun p => (p.1 * z, z, p.2))) = some (flat els')
  | [], els, els', hl, h => by
    simp only [evPartsS, setEls] at h; cases h
    exact ⟨hl, rfl, by simp [evParts, fillParts]⟩
  | (i, x) :: ps, els, els', hl, h => by
    simp only [evPartsS, setEls] at h
    split at h
    · rename_i hc
      obtain ⟨c1, c2, c3⟩ := hc
      have hl' : allLen z (els.set i (cellsOf (x.ev e))) := fun q hq => by
        rcases List.mem_or_eq_of_mem_set hq with h | h
        · exact hl q h
        · rw [h]; exact c1
      obtain ⟨k1, k2, k3⟩ := setEls_fill ps _ _ hl' h
      refine ⟨k1, by simpa using k2, ?_⟩
      simp only [List.map_cons, evParts, fillParts]
      have c4 : i * z + z ≤ (flat els).length := by
        rw [flat_length hl, ← Nat.succ_mul]
        exact Nat.mul_le_mul_right _ c2
      rw [if_pos ⟨c1, c4, c3⟩, ← flat_set hl c2 c1]
      exact k3
    · cases h

theorem slParts_ok (R : Opd → Operand → Prop) (hR : ∀ x y, opd x = some y → R y x) {z : Nat} : ∀ {parts : List (Nat × Operand)} {ps : List (Nat × Opd)}, slParts parts = some ps → PartsOk R (fun i => some (i * z, z)) parts (ps.map fun p => (p.1 * z, z, p.2))
  | [], ps, h => by simp only [slParts] at h; cases h; simp [PartsOk]
  | (i, x) :: r, ps, h => by
    simp only [slParts] at h
    split at h
    · rename_i y l h1 h2
      cases h
      simp only [List.map_cons, PartsOk]
      exact ⟨⟨by simp, hR _ _ h1⟩, slParts_ok R hR h2⟩
    · cases h

theorem relL_of : ∀ {cs : List AV} {ys : List Value}, cs.length = ys.length → (∀ (j : Nat) (x : AV) (y : Value), cs[j]? = some x → ys[j]? = some y → RelV ρ old w x y) → RelL ρ old w cs ys
  | [], [], _, _ => by simp only [RelL]
  | c :: cs, y :: ys, hl, h => by
    simp only [RelL]
    exact ⟨h 0 c y rfl rfl, relL_of (by simpa using hl) fun j x y h1 h2 => h (j + 1) x y (by simpa using h1) (by simpa using h2)⟩
  | [], _ :: _, h, _ => by simp at h
  | _ :: _, [], h, _ => by simp at h
theorem flat_rep_at (zs : List AV) : ∀ (n k : Nat), k < n * zs.length → (flat (List.replicate n zs))[k]? = zs[k % zs.length]?
  | 0, k, h => by simp at h
  | n + 1, k, h => by
    have hz : 0 < zs.length := by rcases Nat.eq_zero_or_pos zs.length with h0 | h0; · rw [h0] at h; simp at h
                                  · exact h0
    simp only [List.replicate_succ, flat]
    by_cases hk : k < zs.length
    · rw [List.getElem?_append_left hk, Nat.mod_eq_of_lt hk]
    · have h2 : k - zs.length < n * zs.length := by rw [Nat.add_mul, Nat.one_mul] at h; omega
      have h3 : k % zs.length = (k - zs.length) % zs.length := Nat.mod_eq_sub_mod (by omega)
      rw [List.getElem?_append_right (by omega), flat_rep_at zs n (k - zs.length) h2, h3]
/-- the zero cells of 'n' elements -/
theorem zeros_rel {zs : List AV} {zc : Array Value} (hz : RelL ρ old w zs zc.toList) (n : Nat) : RelL ρ old w (flat (List.replicate n zs)) ((Array.range (n * zs.length)).map (zc[· % zc.size]!)).toList := by
  have hl : zc.size = zs.length := by rw [← Array.length_toList, relL_length hz]
  refine relL_of (by simp [flat_length (allLen_rep zs.length n zs rfl)]) fun j x y h1 h2 => ?_
  have hj : j < n * zs.length := by
    have := (List.getElem?_eq_some_iff.1 h1).1
    rwa [flat_length (allLen_rep zs.length n zs rfl), List.length_replicate] at this
  rw [flat_rep_at zs n j hj] at h1
  obtain ⟨u, hu, hr⟩ := relL_at hz _ x h1
  have hpos : 0 < zs.length := by rcases Nat.eq_zero_or_pos zs.length with h0 | h0; · rw [h0] at hj; simp at hj
                                  · exact h0
  have e1 : y = zc[j % zc.size]! := by
    simp [hj] at h2
    exact h2.symm
  have hlt : j % zc.size < zc.size := Nat.mod_lt _ (by omega)
  rw [← hl] at hu
  have e2 : zc[j % zc.size]! = u := by
    rw [getElem!_pos zc _ hlt]
    simpa [hlt] using hu
  rw [e1, e2]; exact hr

theorem does_mkslice {t : TypeId} {len : Nat} {parts : Array (Nat × Operand)} (hop : o.op = .buildSlice t len parts) (hm : compOp P o.op = some m) (h : opSem own st m e H = some (v, H')) (hE : ERel ρ old w e a.tmps) (hH : HRel B ρ old w H) (hB : B ≤ w.heap.size) (hst : ¬ old st) : Does P B own.d H ρ old w st a.eval o v H' := by
  simp only [hop, compOp] at hm
  split at hm <;> first | (cases hm; done) | skip
  rename_i el hu
  split at hm <;> first | (cases hm; done) | skip
  rename_i z zv ps h1 h2 h3
  split at hm <;> first | (cases hm; done) | skip
  rename_i zs hzs
  split at hm <;> first | (cases hm; done) | skip
  rename_i hc
  obtain ⟨c1, c2, c3⟩ := hc
  cases hm
  obtain ⟨zvv, hz1, hz2⟩ := tyZero_run h2 w
  have hsz := tySize_run h1 w
  have hz0 : RelL ρ old w zs zvv.cells.toList := by rw [hz2]; exact absL_rel hzs
  have hzl : zs.length = z := by rw [absL_length hzs]; exact c3
  have hzc : zvv.cells.size = z := by rw [← Array.length_toList, hz2]; exact c3
  simp only [opSem] at h
  split at h
  · cases h
  · rename_i els hels
    split at h
    · rename_i hleaf
      cases h
      obtain ⟨k1, k2, k3⟩ := setEls_fill ps _ _ (allLen_rep z len zs hzl) hels
      have hl : els.length = len := by simpa using k2
      have hrep := zeros_rel hz0 len
      rw [hzl] at hrep
      obtain ⟨cells', f1, f2⟩ := fill_run (a := a) (fun i => some (i * z, z)) _ _ _ ((Array.range (len * z)).map (zvv.cells[· % zvv.cells.size]!)) _ (slParts_ok _ (fun x y hx => opd_rel hE hx) h3) hrep k3
      have hcs : cells'.size = len * z := by rw [← Array.length_toList, relL_length f2, flat_length k1, hl]
      refine Does.fresh (u := .slice (some ⟨w.heap.size, 0, none⟩) len len) hH hB hst own ⟨st, els, z, leafL zv⟩ rfl cells' el (w1 := w) ⟨rfl, rfl, rfl, rfl⟩ ?_ ?_ ?_
      · have hps : (parts.map fun (p : Nat × Operand) => (p.1, a.eval p.2)).toList = parts.toList.map fun p => (p.1, a.eval p.2) := by simp
        have hrun : (Instr.buildSlice t len (parts.map fun (p : Nat × Operand) => (p.1, a.eval p.2))).run P w = .ok (.slice (some ⟨w.heap.size, 0, none⟩) len len) (w.alloc (.cells cells' el (0, 0))) := by
          unfold Instr.buildSlice
          simp only [Sem.run_bind, run_underlying hu, Result.andThen_ok, hsz]
          rw [if_neg (show ¬ (len * z > 2 ^ 24) by omega)]
          by_cases h0 : len * z = 0
          · have hcells : (Array.range (len * z)).map (fun x => (#[] : Array Value)[x % (#[] : Array Value).size]!) = (Array.range (len * z)).map (zvv.cells[· % zvv.cells.size]!) := by rw [h0]; simp
            simp only [pure_bind, h0, if_true]
            rw [h0] at hcells f1
            simp only [hcells, hps, f1]
            rfl
          · rw [if_neg h0]
            simp only [pure_bind, bind_assoc, Sem.run_bind, hz1, Result.andThen_ok, hps, f1]
            rfl
        simp only [execOp, hop, Sem.run_bind, hrun, Result.andThen_ok, Sem.run_pure]
      · exact CellsRel.of_flat k1 f2 (fun j u hu => by simpa using hu) hleaf
      · intro ρ' old' w' g1 g2 g3
        simp only [RelV]
        refine ⟨g2, _, len, rfl, Nat.le_refl _, fun _ => rfl, fun b z' hb => ?_⟩
        rw [g1] at hb; cases hb
        exact ⟨rfl, fun _ => by simp, el, _, g3, by rw [hcs]; simp⟩
    · cases h

theorem wrap_i64 {n : Int} (h0 : 0 ≤ n) (h1 : n < 9223372036854775808) : IntKind.i64.wrap n = n := by
  exact IntWalk.i64_in n ⟨by omega, by omega⟩
end
end Go.Proofs.Ytnccnmeecngopaa.Fw
