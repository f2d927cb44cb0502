/- The abstract evaluator, part K4: boxes, stores, slices' bounds. -/
import Derived.Test.YtnccnmeecngopaaFwK3
set_option linter.unusedVariables false
set_option linter.unusedSimpArgs false
namespace Go.Proofs.Ytnccnmeecngopaa.Fw
open Go Go.RowKit

section
variable {P : Program} {B : Nat} {ρ : Map} {old : List Nat → Prop} {w : World} {st : List Nat} {H H' : Heap} {own : Site} {e : Env} {a : Act} {o : Oper} {m : MOp} {v : AV}

/-! ### elements in a row, flat -/
def flat : List (List AV) → List AV
  | [] => []
  | e :: r => e ++ flat r
def allLen (z : Nat) (els : List (List AV)) : Prop := ∀ e ∈ els, e.length = z
theorem flat_at {z : Nat} : ∀ {els : List (List AV)} {i : Nat} {cs : List AV}, allLen z els → els[i]? = some cs → ∀ (j : Nat) (x : AV), cs[j]? = some x → (flat els)[i * z + j]? = some x
  | [], i, cs, _, h, _, _, _ => by simp at h
  | c :: r, 0, cs, hl, h, j, x, hx => by
    simp at h; subst h
    simp only [flat, Nat.zero_mul, Nat.zero_add]
    rw [List.getElem?_append_left (by exact (List.getElem?_eq_some_iff.1 hx).1)]
    exact hx
  | c :: r, i + 1, cs, hl, h, j, x, hx => by
    simp at h
    have h0 : c.length = z := hl c (by simp)
    have := flat_at (z := z) (fun e he => hl e (by simp [he])) h j x hx
    simp only [flat]
    rw [List.getElem?_append_right (by rw [h0, Nat.add_mul]; omega), h0, show (i + 1) * z + j - z = i * z + j by rw [Nat.add_mul]; omega]
    exact this
theorem clEls_at : ∀ {els : List (List AV)}, dryEls els = true → ∀ (i : Nat) (cs : List AV), els[i]? = some cs → dryL cs = true
  | [], _, i, cs, h => by simp at h
  | c :: r, hc, 0, cs, h => by
    simp only [dryEls, Bool.and_eq_true] at hc
    simp at h; subst h; exact hc.1
  | c :: r, hc, i + 1, cs, h => by
    simp only [dryEls, Bool.and_eq_true] at hc
    simp at h
    exact clEls_at hc.2 i cs h
/-- a row whose cells begin with these elements -/
theorem CellsRel.of_flat {blk : Blk} {c : Array Value} {ys : List Value} (hl : allLen blk.z blk.els) (h : RelL ρ old w (flat blk.els) ys) (hp : ∀ (j : Nat) (u : Value), ys[j]? = some u → c[j]? = some u) (hc : blk.leaf = true → dryEls blk.els = true) :
    CellsRel (RelV ρ old w) blk c := fun i cs hi => by
  refine ⟨hl cs (List.mem_of_getElem? hi), fun j x hx => ⟨fun hf => clL_at (clEls_at (hc hf) i cs hi) j x hx, ?_⟩⟩
  obtain ⟨u, hu, hr⟩ := relL_at h _ x (flat_at hl hi j x hx)
  exact ⟨u, hp _ _ hu, hr⟩

theorem absL_length : ∀ {vs : List Value} {as : List AV}, absL vs = some as → as.length = vs.length
  | [], as, h => by simp only [absL] at h; cases h; rfl
  | v :: r, as, h => by
    simp only [absL] at h
    split at h
    · rename_i x l h1 h2; cases h; simp [absL_length h2]
    · cases h
theorem leaf_cl {v : Value} {x : AV} (h : absV v = some x) (hl : leafV v = true) : x.dry = true := by
  unfold absV at h
  split at h <;> first | (cases h; done) | skip
  all_goals (cases h; first | rfl | (simp [leafV] at hl))
theorem leafL_cl : ∀ {vs : List Value} {as : List AV}, absL vs = some as → leafL vs = true → dryL as = true
  | [], as, h, _ => by simp only [absL] at h; cases h; rfl
  | v :: r, as, h, hl => by
    simp only [absL] at h
    simp only [leafL, Bool.and_eq_true] at hl
    split at h
    · rename_i x l h1 h2; cases h
      simp only [dryL, Bool.and_eq_true]
      exact ⟨leaf_cl h1 hl.1, leafL_cl h2 hl.2⟩
    · cases h

theorem does_alloc {t : TypeId} (hop : o.op = .alloc t) (hm : compOp P o.op = some m) (h : opSem own st m e H = some (v, H')) (hE : ERel ρ old w e a.tmps) (hH : HRel B ρ old w H) (hB : B ≤ w.heap.size) (hst : ¬ old st) : Does P B own.d H ρ old w st a.eval o v H' := by
  simp only [hop, compOp] at hm
  split at hm <;> first | (cases hm; done) | skip
  rename_i zv hz
  cases hzs : absL zv with
  | none => simp [hzs] at hm
  | some zs =>
    simp [hzs] at hm; subst hm
    obtain ⟨z, hz1, hz2⟩ := tyZero_run hz w
    simp only [opSem] at h
    cases h
    have hz0 : RelL ρ old w zs z.cells.toList := by rw [hz2]; exact absL_rel hzs
    refine Does.fresh (u := .pointer (some ⟨w.heap.size, 0, none⟩)) hH hB hst own ⟨st, [zs], zs.length, leafL zv⟩ rfl z.cells t (w1 := w) ⟨rfl, rfl, rfl, rfl⟩ ?_ ?_ ?_
    · simp [execOp, hop, Instr.alloc, hz1, newVar, newRow]
    · refine CellsRel.of_flat (ys := z.cells.toList) (by intro e he; simp at he; subst he; rfl) (by simpa [flat] using hz0) (fun j u hu => by simpa using hu) fun hf => ?_
      simp [dryEls, leafL_cl hzs hf]
    · intro ρ' old' w' h1 h2 _
      simp only [RelV]
      refine ⟨h2, _, rfl, fun b z hb => ?_⟩
      rw [h1] at hb; cases hb
      simp

theorem does_box {t : TypeId} {x : Operand} (hop : o.op = .box t x) (hm : compOp P o.op = some m) (h : opSem own st m e H = some (v, H')) (hE : ERel ρ old w e a.tmps) (hH : HRel B ρ old w H) (hB : B ≤ w.heap.size) (hst : ¬ old st) : Does P B own.d H ρ old w st a.eval o v H' := by
  simp only [hop, compOp] at hm
  split at hm <;> first | (cases hm; done) | skip
  rename_i zv n x' h1 h2 h3
  cases hm
  simp only [opSem] at h
  split at h
  · rename_i hc
    cases h
    obtain ⟨k1, k2, k3⟩ := cells_rel hc.2.1 (opd_rel hE h3)
    refine Does.fresh (u := .pointer (some ⟨w.heap.size, 0, none⟩)) hH hB hst own ⟨st, [cellsOf (x'.ev e)], n, leafL zv⟩ rfl (a.eval x).cells t (w1 := w) ⟨rfl, rfl, rfl, rfl⟩ ?_ ?_ ?_
    · simp [execOp, hop, Instr.box, newVar, newRow]
    · refine CellsRel.of_flat (ys := (a.eval x).cells.toList) (by intro e he; simp at he; subst he; exact hc.1) (by simpa [flat] using k1) (fun j u hu => by simpa using hu) fun hf => ?_
      simp [dryEls, hc.2.2 hf]
    · intro ρ' old' w' h1 h2 _
      simp only [RelV]
      refine ⟨h2, _, rfl, fun b z hb => ?_⟩
      rw [h1] at hb; cases hb
      simp
  · cases h

theorem put_at {c : List Value} {k : Nat} {us : List Value} (hk : k + us.length ≤ c.length) (j : Nat) :
    (c.take k ++ us ++ c.drop (k + us.length))[j]? = if j < k then c[j]? else if j < k + us.length then us[j - k]? else c[j]? := by
  have h1 : (c.take k).length = k := by simp; omega
  rw [List.append_assoc]
  by_cases a : j < k
  · rw [if_pos a, List.getElem?_append_left (by omega), List.getElem?_take, if_pos a]
  · rw [if_neg a, List.getElem?_append_right (by omega), h1]
    by_cases b : j < k + us.length
    · rw [if_pos b, List.getElem?_append_left (by omega)]
    · rw [if_neg b, List.getElem?_append_right (by omega), List.getElem?_drop]
      congr 1; omega
theorem putA_at {c : List AV} {k : Nat} {us : List AV} (hk : k + us.length ≤ c.length) (j : Nat) :
    (putCells c k us)[j]? = if j < k then c[j]? else if j < k + us.length then us[j - k]? else c[j]? := by
  unfold putCells
  have h1 : (c.take k).length = k := by simp; omega
  rw [List.append_assoc]
  by_cases a : j < k
  · rw [if_pos a, List.getElem?_append_left (by omega), List.getElem?_take, if_pos a]
  · rw [if_neg a, List.getElem?_append_right (by omega), h1]
    by_cases b : j < k + us.length
    · rw [if_pos b, List.getElem?_append_left (by omega)]
    · rw [if_neg b, List.getElem?_append_right (by omega), List.getElem?_drop]
      congr 1; omega
theorem putA_length {c : List AV} {k : Nat} {us : List AV} (hk : k + us.length ≤ c.length) : (putCells c k us).length = c.length := by
  unfold putCells; simp; omega

theorem does_store {t : TypeId} {x y : Operand} (hop : o.op = .store t x y) (hm : compOp P o.op = some m) (h : opSem own st m e H = some (v, H')) (hE : ERel ρ old w e a.tmps) (hH : HRel B ρ old w H) : Does P B own.d H ρ old w st a.eval o v H' := by
  simp only [hop, compOp] at hm
  split at hm <;> first | (cases hm; done) | skip
  rename_i n x' y' h1 h2 h3
  cases hm
  have hr := opd_rel hE h2
  simp only [opSem] at h
  split at h
  · rename_i s st' i off hv
    rw [hv] at hr
    split at h
    · cases h
    · rename_i blk hrow
      obtain ⟨b, hρ, hBb, hs, hg, c, ty, hb, hc⟩ := hH.at hrow
      split at h
      · cases h
      · rename_i cs hi
        split at h
        · rename_i hck
          obtain ⟨c1, c2, c3, c4⟩ := hck
          cases h
          obtain ⟨k1, k2, k3⟩ := cells_rel c3 (opd_rel hE h3)
          simp only [RelV] at hr
          obtain ⟨hold, p, hp, hq⟩ := hr
          obtain rfl := hq _ _ hρ
          obtain ⟨hcl, hcells⟩ := hc i cs hi
          have hsz := tySize_run h1 w
          have hus : (a.eval y).cells.size = n := by rw [← Array.length_toList, k3]; exact c1
          have hfit : i * blk.z + off + n ≤ c.size := by
            by_cases h0 : n = 0
            · subst h0
              by_cases h1 : off = 0
              · subst h1
                by_cases h2 : blk.z = 0
                · rw [h2]; simp
                · have h3 : cs.length - 1 < cs.length := by omega
                  obtain ⟨_, u, hu, _⟩ := hcells (cs.length - 1) cs[cs.length - 1] (by simp)
                  have := (Array.getElem?_eq_some_iff.1 hu).1
                  omega
              · have h3 : off - 1 < cs.length := by omega
                obtain ⟨_, u, hu, _⟩ := hcells (off - 1) cs[off - 1] (by simp [h3])
                have := (Array.getElem?_eq_some_iff.1 hu).1
                omega
            · have h3 : off + n - 1 < cs.length := by omega
              obtain ⟨_, u, hu, _⟩ := hcells (off + n - 1) cs[off + n - 1] (by simp [h3])
              have := (Array.getElem?_eq_some_iff.1 hu).1
              omega
          have hsc := run_storeCells_at P b (i * blk.z + off) ty (a.eval y).cells.toList 0 c w hb (by simp [hus]; omega) k2
          refine Does.write (r := .skip) (u := undef) hH s b st' ⟨blk.st, blk.els.set i (putCells cs off (cellsOf (y'.ev e))), blk.z, blk.leaf⟩ c (c.toList.take (i * blk.z + off) ++ (a.eval y).cells.toList ++ c.toList.drop (i * blk.z + off + (a.eval y).cells.toList.length)).toArray ty ⟨_, hg⟩ hρ hBb (.inl hs) hold hb ?_ (.inr ⟨rfl, rfl⟩) ?_ ?_ ?_
          · have hsc' : (storeCells ⟨b, i * blk.z + off, none⟩ (a.eval y).cells.toList).run P w = .ok () (w.setRow b (c.toList.take (i * blk.z + off) ++ (a.eval y).cells.toList ++ c.toList.drop (i * blk.z + off + (a.eval y).cells.toList.length)).toArray) := by
              have := hsc
              simpa only [Nat.add_zero] using this
            simp only [execOp, hop, hp, Instr.storeAt, Instr.sureAddr, storeVar, hsz, Sem.run_bind, Sem.run_pure, Result.andThen_ok, hus, ne_eq, not_true_eq_false, if_false, hsc']
          · intro i' e' hi'
            simp only at hi' ⊢
            rw [List.getElem?_set] at hi'
            have bound : i * blk.z + off + (a.eval y).cells.toList.length ≤ c.toList.length := by simp [hus]; omega
            split at hi'
            · rename_i hii
              subst hii
              split at hi'
              · cases hi'
                refine ⟨by rw [putA_length (by omega)]; exact hcl, fun j x hx => ?_⟩
                have hjlt : j < cs.length := by
                  have := (List.getElem?_eq_some_iff.1 hx).1
                  rwa [putA_length (by omega)] at this
                rw [putA_at (by omega)] at hx
                refine ⟨fun hf => ?_, ?_⟩
                · split at hx
                  · exact (hcells j x hx).1 hf
                  · split at hx
                    · exact clL_at (c4 hf) _ x hx
                    · exact (hcells j x hx).1 hf
                · have e0 : ((c.toList.take (i * blk.z + off) ++ (a.eval y).cells.toList ++ c.toList.drop (i * blk.z + off + (a.eval y).cells.toList.length)).toArray)[i * blk.z + j]? = (c.toList.take (i * blk.z + off) ++ (a.eval y).cells.toList ++ c.toList.drop (i * blk.z + off + (a.eval y).cells.toList.length))[i * blk.z + j]? := by simp
                  rw [e0, put_at bound]
                  by_cases q1 : j < off
                  · rw [if_pos q1] at hx
                    rw [if_pos (by omega)]
                    obtain ⟨_, u, hu, hr⟩ := hcells j x hx
                    exact ⟨u, by simpa using hu, hr⟩
                  · rw [if_neg q1] at hx
                    rw [if_neg (by omega)]
                    by_cases q2 : j < off + (cellsOf (y'.ev e)).length
                    · rw [if_pos q2] at hx
                      rw [if_pos (by rw [k3]; omega)]
                      obtain ⟨u, hu, hr⟩ := relL_at k1 _ x hx
                      exact ⟨u, by rw [show i * blk.z + j - (i * blk.z + off) = j - off by omega]; exact hu, hr⟩
                    · rw [if_neg q2] at hx
                      rw [if_neg (by rw [k3]; omega)]
                      obtain ⟨_, u, hu, hr⟩ := hcells j x hx
                      exact ⟨u, by simpa using hu, hr⟩
              · cases hi'
            · rename_i hii
              obtain ⟨hl', hc'⟩ := hc i' e' hi'
              refine ⟨hl', fun j x hx => ?_⟩
              obtain ⟨h5, u, hu, hr⟩ := hc' j x hx
              refine ⟨h5, u, ?_, hr⟩
              have hj : j < blk.z := by rw [← hl']; exact (List.getElem?_eq_some_iff.1 hx).1
              have e0 : ((c.toList.take (i * blk.z + off) ++ (a.eval y).cells.toList ++ c.toList.drop (i * blk.z + off + (a.eval y).cells.toList.length)).toArray)[i' * blk.z + j]? = (c.toList.take (i * blk.z + off) ++ (a.eval y).cells.toList ++ c.toList.drop (i * blk.z + off + (a.eval y).cells.toList.length))[i' * blk.z + j]? := by simp
              rw [e0, put_at bound]
              rcases Nat.lt_or_gt_of_ne hii with hlt | hgt
              · have : (i + 1) * blk.z ≤ i' * blk.z := Nat.mul_le_mul_right _ hlt
                rw [Nat.add_mul] at this
                rw [if_neg (by omega), if_neg (by rw [k3]; omega)]
                simpa using hu
              · have : (i' + 1) * blk.z ≤ i * blk.z := Nat.mul_le_mul_right _ hgt
                rw [Nat.add_mul] at this
                rw [if_pos (by omega)]
                simpa using hu
          · simp [hus]; omega
          · intro ρ' old' w' _ _ _ _
            simp only [RelV]
        · cases h
  · cases h
end
end Go.Proofs.Ytnccnmeecngopaa.Fw
