/- The abstract evaluator, part K8: append, copy. -/
import Derived.Test.YtnccnmeecngopaaFwK7
set_option linter.unusedVariables false
set_option linter.unusedSimpArgs false
namespace Go.Proofs.Ytnccnmeecngopaa.Fw
open Go Go.RowKit

section
variable {P : Program} {B : Nat} {ρ : Map} {old : List Nat → Prop} {w : World} {st : List Nat} {H H' : Heap} {own : Site} {e : Env} {a : Act} {o : Oper} {m : MOp} {v : AV}

theorem clEls_append : ∀ {xs ys : List (List AV)}, dryEls xs = true → dryEls ys = true → dryEls (xs ++ ys) = true
  | [], ys, _, h => by simpa using h
  | c :: r, ys, h1, h2 => by
    simp only [dryEls, Bool.and_eq_true] at h1
    simp only [List.cons_append, dryEls, Bool.and_eq_true]
    exact ⟨h1.1, clEls_append h1.2 h2⟩
theorem allLen_append {z : Nat} {xs ys : List (List AV)} (h1 : allLen z xs) (h2 : allLen z ys) : allLen z (xs ++ ys) := fun e he => by
  rcases List.mem_append.1 he with h | h
  · exact h1 e h
  · exact h2 e h
/-- a block, as one flat row -/
theorem CellsRel.flat_rel {blk : Blk} {c : Array Value} {R : AV → Value → Prop} (h : CellsRel R blk c) : allLen blk.z blk.els ∧ (blk.leaf = true → dryEls blk.els = true) := by
  refine ⟨fun e he => ?_, fun hf => ?_⟩
  · obtain ⟨i, hi⟩ := List.mem_iff_getElem?.1 he
    exact (h i e hi).1
  · have : ∀ (l : List (List AV)), (∀ (i : Nat) (cs : List AV), l[i]? = some cs → dryL cs = true) → dryEls l = true := by
      intro l
      induction l with
      | nil => intro _; rfl
      | cons c r ih =>
        intro hh
        simp only [dryEls, Bool.and_eq_true]
        exact ⟨hh 0 c rfl, ih fun i cs hi => hh (i + 1) cs (by simpa using hi)⟩
    exact this blk.els fun i cs hi => clL_of fun j v hv => (((h i cs hi).2 j v hv).1 hf)

theorem does_append {ts : Array TypeId} {xs : Array Operand} (hop : o.op = .call { callee := .builtin .append, args := xs, argTypes := ts }) (hm : compOp P o.op = some m) (h : opSem own st m e H = some (v, H')) (hE : ERel ρ old w e a.tmps) (hH : HRel B ρ old w H) (hB : B ≤ w.heap.size) (hst : ¬ old st) : Does P B own.d H ρ old w st a.eval o v H' := by
  simp only [hop, compOp] at hm
  split at hm <;> first | (cases hm; done) | skip
  rename_i os hos
  simp only [compBi] at hm
  split at hm <;> first | (cases hm; done) | skip
  rename_i t u so xo hts
  split at hm <;> first | (cases hm; done) | skip
  rename_i el el' hu hu2
  split at hm <;> first | (cases hm; done) | skip
  rename_i z by_ zv hsz hby hz
  split at hm <;> first | (cases hm; done) | skip
  rename_i hc
  obtain ⟨hz0, hb0, hzl⟩ := hc
  cases hm
  have hts' : ts = #[t, u] := Array.ext' (by simpa using hts)
  have hargs := opds_rel hE hos
  simp only [Opd.evs] at hargs
  obtain ⟨us, ux, hus, hs, hx⟩ := relL_two hargs
  have hxs' : xs.map a.eval = #[us, ux] := by
    have : (xs.map a.eval).toList = [us, ux] := by simpa using hus
    exact Array.ext' (by simpa using this)
  obtain ⟨ti, hti, htb⟩ := tyBytes_run hby w
  have hti_size : ti.size = z := by simp [tySize, hti] at hsz; exact hsz
  obtain ⟨zc, hzc1, hzc2⟩ : ∃ zc, ti.zero = some zc ∧ zc.cells.toList = zv := by
    unfold tyZero at hz
    simp only [hti] at hz
    cases hq : ti.zero with
    | none => simp [hq] at hz
    | some zc => simp [hq] at hz; exact ⟨zc, rfl, hz⟩
  have hrun : ∀ (r : Value) (w' : World), (Builtin.append_ #[t, u] o.type #[us, ux]).run P w = .ok r w' → (execOp a.eval o).run P w = .ok (.value r) w' := by
    intro r w' hh
    simp [execOp, hop, resolve, invoke, builtin, hxs', hts', hh]
  simp only [opSem] at h
  split at h
  · cases h
  rename_i new hnew
  split at h <;> first | (cases h; done) | skip
  rename_i hchk
  obtain ⟨hlens, hleafn⟩ := hchk
  obtain ⟨news, n1, n2, n3⟩ := src_rel (P := P) hu2 hH hx hnew hlens
  obtain ⟨nal, ncell⟩ := lens_all hlens
  -- where it grows
  have grow : ∀ (sg : Site) (base : Option Addr) (sLen sCap : Nat) (olds : List Value) (els : List (List AV)), us = .slice base sLen sCap → (Builtin.firstCells z sLen us).run P w.drew = .ok olds.toArray w.drew → RelL ρ old w (flat els) olds → allLen z els → els.length = sLen →
      sCap < sLen + new.length → (sLen + new.length) * by_ ≤ most → (leafL zv = true → dryEls els = true) →
      (¬ sg.d < own.d ∨ ∃ c, H.get sg = some c) → Does P B own.d H ρ old w st a.eval o (.slc sg st z 0 (sLen + new.length) false) (H.set sg ⟨st, els ++ new, z, leafL zv⟩) := by
    intro sg base sLen sCap olds els hus hold hrel hal hel hroom hmost hcl hin
    subst hus
    unfold most at hmost
    have hnl := next_le (need := sLen + new.length) (oldc := sCap) hroom
    have hfit : Builtin.nextslicecap (sLen + new.length) sCap * ti.bytes ≤ 281474976710656 := by
      rw [htb]
      have e1 : Builtin.nextslicecap (sLen + new.length) sCap * by_ ≤ 2 * (sLen + new.length) * by_ := Nat.mul_le_mul_right _ hnl
      have e2 : 2 * (sLen + new.length) * by_ = 2 * ((sLen + new.length) * by_) := by rw [Nat.mul_assoc]
      omega
    have h63 : ((sLen + new.length : Nat) : Int) ≤ 9223372036854775807 := by
      have : (sLen + new.length) * 1 ≤ (sLen + new.length) * by_ := Nat.mul_le_mul_left _ hb0
      omega
    have hg := run_append_grow_src w t u o.type el ti zc hu hti hzc1 base sLen sCap olds (by rw [hti_size]; exact hold) ux new.length news (by rw [hti_size]; exact n3) hroom h63 hfit
    have hgc : sLen + new.length ≤ grownCap w (sLen + new.length) sCap el := by
      unfold grownCap
      simp only [Question.cut]
      omega
    refine Does.fresh (hx := hin) (u := .slice (some ⟨w.heap.size, 0, none⟩) (sLen + new.length) (grownCap w (sLen + new.length) sCap el)) hH hB hst sg ⟨st, els ++ new, z, leafL zv⟩ rfl _ el (w1 := w.drew) ⟨rfl, rfl, rfl, rfl⟩ (hrun _ _ hg) ?_ ?_
    · refine CellsRel.of_flat (ys := olds ++ news) (allLen_append hal nal) (by rw [flat_append]; exact relL_append hrel n1) (fun j y hy => ?_) fun hf => clEls_append (hcl hf) (hleafn hf)
      have hj : j < (olds ++ news).toArray.size := by simpa using (List.getElem?_eq_some_iff.1 hy).1
      rw [Array.getElem?_append_left hj]
      simpa using hy
    · intro ρ' old' w' g1 g2 g3
      simp only [RelV]
      refine ⟨g2, _, _, rfl, hgc, fun hf => by simp at hf, fun b z' hb => ?_⟩
      rw [g1] at hb; cases hb
      refine ⟨rfl, fun _ => by simp, el, _, g3, ?_⟩
      have l1 : olds.length = sLen * z := by rw [relL_length hrel, flat_length hal, hel]
      have l2 : zc.cells.size = z := by rw [← Array.length_toList, hzc2]; exact hzl
      simp only [Array.size_append, List.size_toArray, List.length_append, l1, n2, size_zeroCells, l2, Nat.zero_add]
      rw [← Nat.add_mul, ← Nat.add_mul]
      exact Nat.mul_le_mul_right _ (by omega)
  split at h <;> first | (cases h; done) | skip
  · rename_i hsv
    rw [hsv] at hs
    obtain rfl : us = .slice none 0 0 := by simpa only [RelV] using hs
    split at h
    · rename_i h0
      cases h
      have hnews0 : news = [] := List.eq_nil_of_length_eq_zero (by rw [n2, h0]; simp)
      refine Does.val (u := .slice none 0 0) hH (hrun _ _ ?_) hs
      rw [h0, hnews0] at n3
      simp [Builtin.append_, run_underlying hu, run_underlying hu2, sizeOf, typeInfo, hti, hti_size, n3.len, n3.cells]
    · split at h
      · rename_i h0 h1
        cases h
        have := grow own none 0 0 [] [] rfl (run_firstCells_none w.drew z 0 0 0) (by simp only [flat, RelL]) (fun e he => by simp at he) rfl (by omega) (by simpa using h1) (fun _ => rfl) (.inl (by omega))
        simpa using this
      · cases h
  · rename_i s' st' z' off len full hsv
    rw [hsv] at hs
    have hs0 := hs
    simp only [RelV] at hs
    obtain ⟨ho, p, cap, rfl, hlc, hfull, hp⟩ := hs
    split at h
    · rename_i h0
      cases h
      have hnews0 : news = [] := List.eq_nil_of_length_eq_zero (by rw [n2, h0]; simp)
      refine Does.val (u := .slice (some p) len cap) hH (hrun _ _ ?_) hs0
      rw [h0, hnews0] at n3
      simp [Builtin.append_, run_underlying hu, run_underlying hu2, sizeOf, typeInfo, hti, hti_size, n3.len, n3.cells, hlc, storeCells]
    · rename_i hn0
      split at h
      · cases h
      rename_i blk hrow
      obtain ⟨b, hρ, hBb, hst', hg, c, ty, hb, hcr⟩ := hH.at hrow
      obtain ⟨q1, q2, ty', nn, q3, q4⟩ := hp _ _ hρ
      split at h <;> first | (cases h; done) | skip
      rename_i hck
      obtain ⟨c1, c2, c3, c4⟩ := hck
      subst q1
      obtain ⟨bal, bcl⟩ := hcr.flat_rel
      have hels : CellsAt (RelV ρ old w) w b (off * blk.z) (flat ((blk.els.drop off).take len)) := by
        refine flat_row _ off fun i cs hi => ?_
        rw [List.getElem?_take] at hi
        split at hi
        · rw [List.getElem?_drop] at hi
          exact ⟨(hcr _ cs hi).1, hcr.at hb hi⟩
        · cases hi
      have hal : allLen blk.z ((blk.els.drop off).take len) := fun e he => bal e (List.mem_of_mem_drop (List.mem_of_mem_take he))
      have hnl : ((blk.els.drop off).take len).length = len := by simp; omega
      have hclt : leafL zv = true → dryEls ((blk.els.drop off).take len) = true := by
        intro hf
        rw [← c2] at hf
        have hb := bcl hf
        have : ∀ (l : List (List AV)) (k n : Nat), dryEls l = true → dryEls ((l.drop k).take n) = true := by
          intro l
          induction l with
          | nil => intro k n _; simp [dryEls]
          | cons c r ih =>
            intro k n hh
            simp only [dryEls, Bool.and_eq_true] at hh
            cases k with
            | zero =>
              cases n with
              | zero => simp [dryEls]
              | succ n => simp only [List.drop_zero, List.take_succ_cons, dryEls, Bool.and_eq_true]; exact ⟨hh.1, by simpa using ih 0 n hh.2⟩
            | succ k => simpa using ih k n hh.2
        exact this _ _ _ hb
      obtain ⟨olds, o1, o2, o3⟩ := hels.values
      have hold : (Builtin.firstCells z len (.slice (some p) len cap)).run P w.drew = .ok olds.toArray w.drew := by
        have hl : olds.length = len * z := by rw [o1, flat_length hal, hnl, c1]
        by_cases hl0 : len = 0
        · subst hl0
          have : olds = [] := List.eq_nil_of_length_eq_zero (by rw [hl]; simp)
          subst this
          exact run_firstCells_some w.drew z 0 p 0 cap [] (by simp) (by simp)
        · rw [q2 (by omega)]
          exact run_firstCells_some w.drew z len ⟨b, off * blk.z, none⟩ len cap olds hl (fun j y hy => by rw [add_at]; simpa using o3 j y hy)
      split at h
      · rename_i hf
        cases h
        have hcap := hfull hf
        exact grow own (some p) len cap olds _ rfl hold o2 (by rw [← c1]; exact hal) hnl (by omega) c3 hclt (.inl (by omega))
      · split at h
        · rename_i hf hend
          obtain ⟨e1, e2⟩ := hend
          subst e1
          cases h
          have hd : (blk.els.drop 0).take len = blk.els := by rw [e2]; simp
          rw [hd] at o1 o2 hal hclt hnl
          have halz : allLen z blk.els := by rw [← c1]; exact hal
          by_cases hroom : len + new.length ≤ cap
          · obtain rfl := q2 (by omega)
            have hsh : w.shape? b = some (ty, c.size) := by unfold World.shape?; rw [hb]
            rw [hsh] at q3
            obtain ⟨rfl, rfl⟩ : ty = ty' ∧ c.size = nn := by simpa using q3
            have hfit : len * blk.z + news.length ≤ c.size := by
              rw [n2, ← c1, ← Nat.add_mul]
              exact Nat.le_trans (Nat.mul_le_mul_right _ hroom) (by simpa using q4)
            have hstc := run_storeCells_at P b (len * blk.z) ty news 0 c w hb (by simpa using hfit) n3.one
            simp only [Nat.add_zero] at hstc
            have hap : (Builtin.append_ #[t, u] o.type #[.slice (some ⟨b, 0 * blk.z, none⟩) len cap, ux]).run P w = .ok (.slice (some ⟨b, 0 * blk.z, none⟩) (len + new.length) cap) (w.setRow b (c.toList.take (len * blk.z) ++ news ++ c.toList.drop (len * blk.z + news.length)).toArray) := by
              have hcells := n3.cells
              rw [← c1] at hcells
              simp [Builtin.append_, run_underlying hu, run_underlying hu2, sizeOf, typeInfo, hti, hti_size, ← c1, n3.len, hroom, hcells, add_at, hstc]
            have hol : olds.length = len * blk.z := by rw [o1, flat_length hal, hnl]
            refine Does.write (r := .value (.slice (some ⟨b, 0 * blk.z, none⟩) (len + new.length) cap)) (u := .slice (some ⟨b, 0 * blk.z, none⟩) (len + new.length) cap) hH s' b st' ⟨st, blk.els ++ new, z, leafL zv⟩ c _ ty ⟨_, hg⟩ (by rw [← c1]; exact hρ) hBb (.inr ⟨rfl, hst⟩) ho hb (hrun _ _ hap) (.inl rfl) ?_ ?_ ?_
            · refine CellsRel.of_flat (ys := olds ++ news) (allLen_append halz nal) (by rw [flat_append]; exact relL_append o2 n1) (fun j y hy => ?_) fun hf => clEls_append (hclt hf) (hleafn hf)
              have e0 : ((c.toList.take (len * blk.z) ++ news ++ c.toList.drop (len * blk.z + news.length)).toArray)[j]? = (c.toList.take (len * blk.z) ++ news ++ c.toList.drop (len * blk.z + news.length))[j]? := by simp
              rw [e0, put_at (by simpa using hfit)]
              by_cases hj : j < len * blk.z
              · rw [List.getElem?_append_left (by omega)] at hy
                rw [if_pos hj]
                have := o3 j y hy
                simp [World.cell?, hb] at this
                simpa using this
              · rw [List.getElem?_append_right (by omega), hol] at hy
                rw [if_neg hj, if_pos (by have := (List.getElem?_eq_some_iff.1 hy).1; omega)]
                exact hy
            · simp; omega
            · intro ρ' old' w' _ g1 g2 g3
              simp only [RelV]
              refine ⟨g2, _, cap, rfl, hroom, fun hf => by simp at hf, fun b' z' hb' => ?_⟩
              rw [g1] at hb'; cases hb'
              refine ⟨rfl, fun _ => by simp, ty, _, g3, ?_⟩
              simp only [List.size_toArray, List.length_append, List.length_take, List.length_drop, Array.length_toList]
              rw [← c1]
              simp only [Nat.zero_add] at q4 ⊢
              omega
          · exact grow s' (some p) len cap olds _ rfl hold o2 halz (by omega) (by omega) c3 hclt (.inr ⟨_, hg⟩)
        · cases h
end
end Go.Proofs.Ytnccnmeecngopaa.Fw
