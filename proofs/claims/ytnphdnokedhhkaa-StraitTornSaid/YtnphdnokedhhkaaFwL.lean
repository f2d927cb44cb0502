/- The abstract evaluator, part L: every operation that is no call does what 'opSem' says. | The abstract evaluator, part M: what is handed to a call and back. | The abstract evaluator, part N: what a call hands back. | The abstract evaluator, part O: calls. -/
import Derived.Test.YtnphdnokedhhkaaFwK
set_option linter.unusedVariables false
set_option linter.unusedSimpArgs false
set_option linter.unnecessarySimpa false
namespace Go.Proofs.Ytnphdnokedhhkaa.Fw
open Go Go.RowKit

section
variable {P : Program} {B : Nat} {ρ : Map} {old : List Nat → Prop} {w : World} {st : List Nat} {H H' : Heap} {own : Site} {e : Env} {a : Act} {o : Oper} {m : MOp} {v : AV}

theorem Does.of_next {ρe : Operand → Value} {u : Value} {w' : World} (hH : HRel B ρ old w H) (h : (execOp ρe o).run P w = .ok (.value u) w') (hs : Still w w') (hr : RelV ρ old w v u) : Does P B own.d H ρ old w st ρe o v H := by
  obtain ⟨k, hH'⟩ := hH.same (w' := w') (old' := old) (fun k _ => by rw [hs.heap]) (fun _ h => h)
  exact ⟨.value u, u, w', ρ, old, h, .inl rfl, k, RelV.mono k _ _ hr, hH', hs.below B, fun s h => .inl h, rfl, Fr.same (fun b _ => by rw [hs.heap]) fun s b z st e => (hH.inb _ _ _ _ e).2⟩

theorem compBi_cases {b : Builtin} {ts : Array TypeId} {xs : List Opd} (h : compBi P b ts xs = some m) : (∃ k, m = .bi k xs ∧ biOf P b ts k) ∨ b = .append ∨ b = .copy := by
  by_cases hb : b = .append
  · exact .inr (.inl hb)
  by_cases hb2 : b = .copy
  · exact .inr (.inr hb2)
  · left
    have hm : ∃ k ys, m = .bi k ys := by
      unfold compBi at h
      split at h <;> first | (cases h; done) | (exact absurd rfl hb) | (exact absurd rfl hb2) | skip
      all_goals first | (cases h; exact ⟨_, _, rfl⟩) | skip
      split at h
      · cases h
      · split at h <;> first | (cases h; done) | (cases h; exact ⟨_, _, rfl⟩)
    obtain ⟨k, ys, rfl⟩ := hm
    obtain ⟨h1, rfl⟩ := biOf_comp h
    exact ⟨k, rfl, h1⟩

theorem does_call {c : Call} (hop : o.op = .call c) (hm : compOp P o.op = some m) (h : opSem own st m e H = some (v, H')) (hE : ERel ρ old w e a.tmps) (hH : HRel B ρ old w H) (hB : B ≤ w.heap.size) (hst : ¬ old st) : Does P B own.d H ρ old w st a.eval o v H' := by
  obtain ⟨callee, args, ts⟩ := c
  have hm0 := hm
  simp only [hop, compOp] at hm
  split at hm <;> first | (cases hm; done) | skip
  rename_i xs hxs
  have hargs := opds_rel hE hxs
  have hargs' : RelL ρ old w (Opd.evs e xs) (args.map a.eval).toList := by simpa using hargs
  split at hm
  · rename_i b
    rcases compBi_cases hm with ⟨k, rfl, hk⟩ | rfl | rfl
    · simp only [opSem] at h
      cases hb : biSem k (Opd.evs e xs) with
      | none => simp [hb] at h
      | some z =>
        simp [hb] at h
        obtain ⟨rfl, rfl⟩ := h
        obtain ⟨u, w', h1, h2, h3⟩ := bi_yields (P := P) (ty := o.type) (cs := args.map fun | .const _ => true | _ => false) hk hargs' hb
        refine Does.of_next hH (u := u) (w' := w') ?_ h2 h3
        simp only [execOp, hop, resolve, Sem.run_bind, Sem.run_pure, Result.andThen_ok, invoke]
        exact h1
    · exact does_append hop hm0 h hE hH hB hst
    · exact does_copy hop hm0 h hE hH hB hst
  · rename_i f
    split at hm <;> first | (cases hm; done) | skip
    rename_i fn hf
    split at hm <;> first | (cases hm; done) | skip
    split at hm
    · rename_i hn hb
      cases hk : extKind fn with
      | none => simp [hk] at hm
      | some k =>
        simp [hk] at hm; subst hm
        simp only [opSem] at h
        cases hq : extSem k (Opd.evs e xs) with
        | none => simp [hq] at h
        | some z =>
          simp [hq] at h
          obtain ⟨rfl, rfl⟩ := h
          obtain ⟨u, w', h1, h2, h3⟩ := ext_yields (P := P) (us := args.map a.eval) hf hb hk hargs' hq
          refine Does.of_next hH (u := u) (w' := w') ?_ h2 h3
          simp only [execOp, hop, resolve, Act.eval, Deferred.ofValue, Sem.run_bind, Sem.run_pure, Result.andThen_ok, invoke, Array.append_empty, Array.empty_append]
          exact h1
    · cases hm; simp only [opSem] at h; cases h
  · cases hm; simp only [opSem] at h; cases h
  · cases hm

theorem opSem_does (hm : compOp P o.op = some m) (h : opSem own st m e H = some (v, H')) (hE : ERel ρ old w e a.tmps) (hH : HRel B ρ old w H) (hB : B ≤ w.heap.size) (hst : ¬ old st) : Does P B own.d H ρ old w st a.eval o v H' := by
  cases hop : o.op with
  | move x => exact does_mov (.inl hop) hm h hE hH
  | assign x => exact does_mov (.inr hop) hm h hE hH
  | pick c x y => exact does_pick hop hm h hE hH
  | alloc t => exact does_alloc hop hm h hE hH hB hst
  | box t x => exact does_box hop hm h hE hH hB hst
  | build t ps => exact does_build hop hm h hE hH
  | buildSlice t n ps => exact does_mkslice hop hm h hE hH hB hst
  | load t x => exact does_load hop hm h hE hH
  | store t x y => exact does_store hop hm h hE hH
  | nilCheck x => exact does_nilck hop hm h hE hH
  | binOp op t x y t' => exact does_bin hop hm h hE hH
  | unOp op t x => exact does_un hop hm h hE hH
  | convert s t x => exact does_conv hop hm h hE hH
  | makeFunc f xs ys =>
    cases f with
    | func f => exact does_mkfn hop hm h hE hH
    | _ => simp [hop, compOp] at hm
  | makeSlice t x y => exact does_make hop hm h hE hH hB hst
  | slice t x lo hi mx => exact does_slice hop hm h hE hH
  | fieldAddr t x i => exact does_faddr hop hm h hE hH
  | field t x i => exact does_field hop hm h hE hH
  | indexAddr t x i => exact does_iaddr hop hm h hE hH
  | index t x i => exact does_index hop hm h hE hH
  | extract x i => exact does_extract hop hm h hE hH
  | call c => exact does_call hop hm h hE hH hB hst
  | _ => simp [hop, compOp] at hm
end
end Go.Proofs.Ytnphdnokedhhkaa.Fw
namespace Go.Proofs.Ytnphdnokedhhkaa.Fw
open Go Go.RowKit

section
variable {P : Program} {B : Nat} {ρ ρ' : Map} {old old' : List Nat → Prop} {w w' : World} {st : List Nat} {H H' : Heap} {own : Site} {e : Env} {a : Act} {o : Oper} {m : MOp} {v : AV}

theorem dry_rel {x : AV} {y : Value} (hd : x.dry = true) (h : RelV ρ old w x y) : RelV ρ' old' w' x y := by
  cases x <;> simp only [AV.dry, Bool.false_eq_true] at hd <;> simpa only [RelV] using h
theorem dryL_rel : ∀ {xs : List AV} {ys : List Value}, dryL xs = true → RelL ρ old w xs ys → RelL ρ' old' w' xs ys
  | [], [], _, _ => by simp only [RelL]
  | x :: xs, y :: ys, hd, h => by
    simp only [dryL, Bool.and_eq_true] at hd
    simp only [RelL] at h ⊢
    exact ⟨dry_rel hd.1 h.1, dryL_rel hd.2 h.2⟩
  | [], _ :: _, _, h => by simp only [RelL] at h
  | _ :: _, [], _, h => by simp only [RelL] at h
theorem flatA_rel {x : AV} {y : Value} (hd : flatA x = true) (h : RelV ρ old w x y) : RelV ρ' old' w' x y := by
  cases x with
  | agg cs =>
    simp only [flatA] at hd
    simp only [RelV] at h ⊢
    obtain ⟨ys, e, h1⟩ := h
    exact ⟨ys, e, dryL_rel hd h1⟩
  | _ => exact dry_rel (by simpa [flatA] using hd) h
theorem flatAs_rel : ∀ {xs : List AV} {ys : List Value}, flatAs xs = true → RelL ρ old w xs ys → RelL ρ' old' w' xs ys
  | [], [], _, _ => by simp only [RelL]
  | x :: xs, y :: ys, hd, h => by
    simp only [flatAs, Bool.and_eq_true] at hd
    simp only [RelL] at h ⊢
    exact ⟨flatA_rel hd.1 h.1, flatAs_rel hd.2 h.2⟩
  | [], _ :: _, _, h => by simp only [RelL] at h
  | _ :: _, [], _, h => by simp only [RelL] at h
theorem flatT_rel {x : AV} {y : Value} (hd : flatT x = true) (h : RelV ρ old w x y) : RelV ρ' old' w' x y := by
  cases x with
  | tup cs =>
    simp only [flatT] at hd
    simp only [RelV] at h ⊢
    obtain ⟨ys, e, h1⟩ := h
    exact ⟨ys, e, flatAs_rel hd h1⟩
  | _ => exact flatA_rel (by simpa [flatT] using hd) h

/-- nothing is owned -/
def ρ0 (av : Nat → Prop) : Map := ⟨fun _ => none, av, fun _ _ => False⟩
def old0 : List Nat → Prop := fun _ => False

theorem optList_cons {α β : Type} {f : α → Option β} {x : α} {r : List α} {l : List β} (h : optList f (x :: r) = some l) : ∃ y s, f x = some y ∧ optList f r = some s ∧ l = y :: s := by
  simp only [optList] at h
  split at h
  · cases h
  · rename_i y hy
    split at h
    · cases h
    · rename_i s hs
      cases h
      exact ⟨y, s, hy, hs, rfl⟩
theorem optList_at {α β : Type} {f : α → Option β} : ∀ {xs : List α} {l : List β}, optList f xs = some l → l.length = xs.length ∧ ∀ (i : Nat) (y : β), l[i]? = some y → ∃ x, xs[i]? = some x ∧ f x = some y
  | [], l, h => by simp only [optList] at h; cases h; exact ⟨rfl, fun i y hy => by simp at hy⟩
  | x :: xs, l, h => by
    obtain ⟨y, s, h1, h2, rfl⟩ := optList_cons h
    obtain ⟨h3, h4⟩ := optList_at h2
    refine ⟨by simp [h3], fun i z hz => ?_⟩
    cases i with
    | zero => simp at hz; subst hz; exact ⟨x, rfl, h1⟩
    | succ i => simp at hz; obtain ⟨x', h5, h6⟩ := h4 i z hz; exact ⟨x', by simpa using h5, h6⟩

/-- cells, from what stands there -/
theorem cells_of_at {ρ : Map} {old : List Nat → Prop} {b : Nat} (hno : ¬ owned ρ b) : ∀ {o : Nat} {cs : List AV}, (∀ (j : Nat) (c : AV), cs[j]? = some c → c.cl = true ∧ ∃ u, w.cell? ⟨b, o + j, none⟩ = some u ∧ RelV ρ old w c u) → RelCells ρ old w b o cs
  | o, [], _ => by simp only [RelCells]
  | o, c :: cs, h => by
    simp only [RelCells]
    obtain ⟨h1, u, h2, h3⟩ := h 0 c rfl
    refine ⟨h1, hno, ⟨u, h2, h3⟩, cells_of_at hno fun j d hd => ?_⟩
    have := h (j + 1) d (by simpa using hd)
    rwa [show o + (j + 1) = o + 1 + j by omega] at this
theorem els_of_at {ρ : Map} {old : List Nat → Prop} {b z : Nat} (hno : ¬ owned ρ b) : ∀ {o : Nat} {els : List (List AV)}, (∀ (i : Nat) (cs : List AV), els[i]? = some cs → cs.length = z ∧ ∀ (j : Nat) (c : AV), cs[j]? = some c → c.cl = true ∧ ∃ u, w.cell? ⟨b, o + i * z + j, none⟩ = some u ∧ RelV ρ old w c u) → RelEls ρ old w b o z els
  | o, [], _ => by simp only [RelEls]
  | o, cs :: els, h => by
    simp only [RelEls]
    obtain ⟨h1, h2⟩ := h 0 cs rfl
    refine ⟨h1, cells_of_at hno (by simpa using h2), els_of_at hno fun i ds hd => ?_⟩
    have := h (i + 1) ds (by simpa using hd)
    rwa [show o + (i + 1) * z = o + z + i * z by rw [Nat.add_mul]; omega] at this

theorem noown (av : Nat → Prop) (h : ∀ b, ¬ av b) (b : Nat) : ¬ owned (ρ0 av) b := by
  rintro (h1 | ⟨s, z, st, h1⟩)
  · exact h b h1
  · simp [ρ0] at h1

theorem freeze_rel (hH : HRel B ρ old w H) : ∀ (n : Nat) (x x' : AV) (y : Value), freeze H n x = some x' → RelV ρ old w x y → x'.cl = true ∧ RelV (ρ0 fun _ => False) old0 w x' y
  | 0, x, x', y, h, _ => by simp [freeze] at h
  | n + 1, x, x', y, h, hr => by
    have hno : ∀ b, ¬ owned (ρ0 fun _ => False) b := noown _ (fun _ h => h)
    have ih := freeze_rel hH n
    have ihL : ∀ (xs xs' : List AV) (ys : List Value), optList (freeze H n) xs = some xs' → RelL ρ old w xs ys → AV.clL xs' = true ∧ RelL (ρ0 fun _ => False) old0 w xs' ys := by
      intro xs
      induction xs with
      | nil =>
        intro xs' ys h hr
        simp only [optList] at h; cases h
        cases ys with
        | nil => exact ⟨rfl, by simp only [RelL]⟩
        | cons _ _ => simp only [RelL] at hr
      | cons x xs ihx =>
        intro xs' ys h hr
        obtain ⟨y, s, h1, h2, rfl⟩ := optList_cons h
        cases ys with
        | nil => simp only [RelL] at hr
        | cons z zs =>
          simp only [RelL] at hr
          obtain ⟨k1, k2⟩ := ih _ _ _ h1 hr.1
          obtain ⟨k3, k4⟩ := ihx _ _ h2 hr.2
          simp only [AV.clL, Bool.and_eq_true, RelL]
          exact ⟨⟨k1, k3⟩, k2, k4⟩
    -- one cell of a block of ours
    have cell : ∀ (blk : Blk) (c : Array Value) (ty : TypeId) (b i j : Nat) (cs : List AV) (x : AV), w.heap[b]? = some (.cells c ty (0, 0)) → CellsRel (RelV ρ old w) blk c → blk.els[i]? = some cs → cs[j]? = some x →
        ∃ u, w.cell? ⟨b, i * blk.z + j, none⟩ = some u ∧ RelV ρ old w x u ∧ (blk.leaf = true → x.dry = true) := by
      intro blk c ty b i j cs x hb hc hi hj
      obtain ⟨_, h2⟩ := hc i cs hi
      obtain ⟨h3, u, h4, h5⟩ := h2 j x hj
      exact ⟨u, by simp [World.cell?, hb, h4], h5, h3⟩
    have close : ∀ (x : AV) (u : Value), x.cl = true → RelV ρ old w x u → RelV (ρ0 fun _ => False) old0 w x u := fun x u hc hr => RelV.closed (fun b _ _ => hno b) x u hc hr
    cases x with
    | v x => simp only [freeze] at h; cases h; exact ⟨rfl, close _ _ rfl hr⟩
    | flt b => simp only [freeze] at h; cases h; exact ⟨rfl, close _ _ rfl hr⟩
    | cpx a b => simp only [freeze] at h; cases h; exact ⟨rfl, close _ _ rfl hr⟩
    | nils => simp only [freeze] at h; cases h; exact ⟨rfl, close _ _ rfl hr⟩
    | imm cs => simp only [freeze] at h; cases h; exact ⟨rfl, close _ _ rfl hr⟩
    | lst z els => simp only [freeze] at h; cases h; exact ⟨rfl, close _ _ rfl hr⟩
    | own z els l => simp only [freeze] at h; cases h
    | ownp cs l => simp only [freeze] at h; cases h
    | junk => simp only [freeze] at h; cases h
    | agg cs =>
      simp only [freeze] at h
      cases hq : optList (freeze H n) cs with
      | none => simp [hq] at h
      | some l =>
        simp [hq] at h; subst h
        simp only [RelV] at hr ⊢
        obtain ⟨ys, e, h1⟩ := hr
        obtain ⟨k1, k2⟩ := ihL _ _ _ hq h1
        exact ⟨by simpa [AV.cl] using k1, ys, e, k2⟩
    | tup cs =>
      simp only [freeze] at h
      cases hq : optList (freeze H n) cs with
      | none => simp [hq] at h
      | some l =>
        simp [hq] at h; subst h
        simp only [RelV] at hr ⊢
        obtain ⟨ys, e, h1⟩ := hr
        obtain ⟨k1, k2⟩ := ihL _ _ _ hq h1
        exact ⟨by simpa [AV.cl] using k1, ys, e, k2⟩
    | fn f p q =>
      simp only [freeze] at h
      split at h
      · rename_i p' q' h1 h2
        cases h
        simp only [RelV] at hr ⊢
        obtain ⟨a', b', e, h3, h4⟩ := hr
        obtain ⟨k1, k2⟩ := ihL _ _ _ h1 h3
        obtain ⟨k3, k4⟩ := ihL _ _ _ h2 h4
        exact ⟨by simp [AV.cl, k1, k3], a', b', e, k2, k4⟩
      · cases h
    | ptr s st i off =>
      simp only [freeze] at h
      split at h
      · cases h
      · rename_i blk hrow
        split at h
        · cases h
        · rename_i cs hi
          obtain ⟨b, hρ, hBb, hs, hg, c, ty, hb, hc⟩ := hH.at hrow hi
          simp only [RelV] at hr
          obtain ⟨_, p, hp, hq⟩ := hr
          obtain rfl := hq _ _ hρ
          split at h
          · rename_i hl
            cases h
            refine ⟨rfl, ?_⟩
            simp only [RelV]
            refine ⟨b, i * blk.z + off, hp, cells_of_at (hno b) fun j c' hj => ?_⟩
            rw [List.getElem?_drop] at hj
            obtain ⟨u, h1, h2, h3⟩ := cell blk c ty b i _ cs c' hb hc hi hj
            exact ⟨dry_cl (h3 hl), u, by rw [Nat.add_assoc]; exact h1, close _ _ (dry_cl (h3 hl)) h2⟩
          · cases hq' : optList (freeze H n) (cs.drop off) with
            | none => simp [hq'] at h
            | some l =>
              simp [hq'] at h; subst h
              refine ⟨rfl, ?_⟩
              simp only [RelV]
              obtain ⟨_, h6⟩ := optList_at hq'
              refine ⟨b, i * blk.z + off, hp, cells_of_at (hno b) fun j c' hj => ?_⟩
              obtain ⟨x, h7, h8⟩ := h6 j c' hj
              rw [List.getElem?_drop] at h7
              obtain ⟨u, h1, h2, _⟩ := cell blk c ty b i _ cs x hb hc hi h7
              obtain ⟨k1, k2⟩ := ih _ _ _ h8 h2
              exact ⟨k1, u, by rw [Nat.add_assoc]; exact h1, k2⟩
    | slc s st z off len full =>
      simp only [freeze] at h
      split at h
      · cases h
      · rename_i blk hrow
        split at h <;> first | (cases h; done) | skip
        rename_i hle
        simp only [RelV] at hr
        rcases hH.row hrow with ⟨hv1, he, _, _⟩ | ⟨hv1, b, hρ, hBb, hs, hg, c, ty, hb, hc⟩
        · obtain ⟨_, ⟨_, ⟨aa, hy⟩, h0⟩ | ⟨hv2, _⟩⟩ := hr
          · subst h0
            have h1 : x' = .lst z [] := by
              split at h
              · cases h; simp
              · simp only [List.take_zero, optList] at h
                simp only [Option.map_some, Option.some.injEq] at h
                exact h.symm
            subst h1
            refine ⟨rfl, ?_⟩
            simp only [RelV]
            cases aa with
            | none => exact .inl ⟨trivial, hy⟩
            | some p => exact .inr ⟨p, 0, hy, Nat.le_refl _, fun h => absurd rfl h, by simp only [RelEls]⟩
          · exact absurd hv1 hv2
        obtain ⟨_, ⟨hv2, _⟩ | ⟨_, p, cap, hp, hlc, hfull, hq⟩⟩ := hr
        · exact absurd hv2 hv1
        obtain ⟨q1, q2, _⟩ := hq _ _ hρ
        have fin : ∀ (els : List (List AV)), els.length = len → (∀ (i : Nat) (cs : List AV), els[i]? = some cs → cs.length = z ∧ ∀ (j : Nat) (c : AV), cs[j]? = some c → c.cl = true ∧ ∃ u, w.cell? ⟨b, off * z + i * z + j, none⟩ = some u ∧ RelV (ρ0 fun _ => False) old0 w c u) →
            (AV.lst z els).cl = true ∧ RelV (ρ0 fun _ => False) old0 w (.lst z els) y := by
          intro els hl hels
          refine ⟨rfl, ?_⟩
          simp only [RelV]
          by_cases h0 : len = 0
          · have : els = [] := List.eq_nil_of_length_eq_zero (by omega)
            subst this
            exact .inr ⟨p, cap, by rw [hp, ← hl], by rw [hl]; exact hlc, fun h => absurd rfl h, by simp only [RelEls]⟩
          · have hpb := q2 (by omega)
            subst hpb
            exact .inr ⟨_, cap, by rw [hp, ← hl], by rw [hl]; exact hlc, fun _ => rfl, els_of_at (hno b) hels⟩
        split at h
        · rename_i hl
          cases h
          refine fin _ (by simp; omega) fun i cs hi => ?_
          rw [List.getElem?_take] at hi
          split at hi
          · rw [List.getElem?_drop] at hi
            refine ⟨by rw [← q1]; exact (hc _ cs hi).1, fun j x hj => ?_⟩
            obtain ⟨u, h1, h2, h3⟩ := cell blk c ty b _ j cs x hb hc hi hj
            exact ⟨dry_cl (h3 hl), u, by rw [← q1, ← Nat.add_mul]; exact h1, close _ _ (dry_cl (h3 hl)) h2⟩
          · cases hi
        · cases hq' : optList (optList (freeze H n)) ((blk.els.drop off).take len) with
          | none => simp [hq'] at h
          | some l =>
            simp [hq'] at h; subst h
            obtain ⟨h5, h6⟩ := optList_at hq'
            refine fin _ (by rw [h5]; simp; omega) fun i cs hi => ?_
            obtain ⟨ds, h7, h8⟩ := h6 i cs hi
            rw [List.getElem?_take] at h7
            split at h7
            · rw [List.getElem?_drop] at h7
              obtain ⟨h9, h10⟩ := optList_at h8
              refine ⟨by rw [← q1, h9]; exact (hc _ ds h7).1, fun j x hj => ?_⟩
              obtain ⟨d, h11, h12⟩ := h10 j x hj
              obtain ⟨u, h1, h2, _⟩ := cell blk c ty b _ j ds d hb hc h7 h11
              obtain ⟨k1, k2⟩ := ih _ _ _ h12 h2
              exact ⟨k1, u, by rw [← q1, ← Nat.add_mul]; exact h1, k2⟩
            · cases h7
end
end Go.Proofs.Ytnphdnokedhhkaa.Fw
namespace Go.Proofs.Ytnphdnokedhhkaa.Fw
open Go Go.RowKit

theorem dryEls_at : ∀ {els : List (List AV)}, dryEls els = true → ∀ (i : Nat) (cs : List AV), els[i]? = some cs → dryL cs = true
  | [], _, i, cs, h => by simp at h
  | c :: r, hc, 0, cs, h => by
    simp only [dryEls, Bool.and_eq_true] at hc
    simp at h; subst h; exact hc.1
  | c :: r, hc, i + 1, cs, h => by
    simp only [dryEls, Bool.and_eq_true] at hc
    simp at h
    exact dryEls_at hc.2 i cs h

/-- What holds while results are put in their places: 'ρc' is the callee's state, 'ρt' the caller's so far. -/
structure Put (all : Bool) (d : Nat) (B : Nat) (ρc : Map) (oldc : List Nat → Prop) (w : World) (st : List Nat) (j : Nat) (R : List Site) (ρt : Map) (oldt : List Nat → Prop) (Ht : Heap) : Prop where
  heap : HRel B ρt oldt w Ht
  conv : ∀ x u, (all = true → x.dry = true) → RelV ρc oldc w x u → RelV ρt oldt w x u
  stamps : ∀ i, j ≤ i → ¬ oldt ((i + 1) :: st)
  free : ∀ s ∈ R, s.d = d → ∀ b z st, ρc s = some (b, z, st) → B ≤ b ∧ ρt.av b ∧ ∀ s' z' st', ρt s' ≠ some (b, z', st')

section
variable {all : Bool} {d : Nat} {B Bc : Nat} {ρc ρt : Map} {oldc oldt : List Nat → Prop} {w : World} {R : List Site} {Hc Ht : Heap} {D T j : Nat} {st : List Nat}

/-- one block of the callee's becomes one of the caller's. -/
theorem Put.claim (h : Put all d B ρc oldc w st j R ρt oldt Ht) (hc : HRel Bc ρc oldc w Hc) (S : Site) {s : Site} (hs : s ∈ R) (hd : s.d = d) {blk blk' : Blk} {b : Nat} {st0 : List Nat} (hρ : ρc s = some (b, blk.z, st0)) {c : Array Value} {ty : TypeId} (hb : w.heap[b]? = some (.cells c ty (0, 0)))
    (hcr : CellsRel (RelV ρc oldc w) blk c) (hz : blk'.z = blk.z) (hels : ∀ (i : Nat) (cs : List AV), blk'.els[i]? = some cs → blk.els[i]? = some cs) (hdry : dryEls blk'.els = true) (hst' : blk'.st = (j + 1) :: st) :
    Put all d B ρc oldc w st (j + 1) (R.filter (· ≠ s)) (ρt.upd S (b, blk'.z, blk'.st)) (fun q => oldt q ∨ q = blk'.st) (Ht.set S blk') ∧
      Keep ρt (ρt.upd S (b, blk'.z, blk'.st)) oldt (fun q => oldt q ∨ q = blk'.st) w w := by
  obtain ⟨hBb, hav, hno⟩ := h.free s hs hd b _ _ hρ
  have hst : ¬ oldt blk'.st := by rw [hst']; exact h.stamps j (Nat.le_refl _)
  have k : Keep ρt (ρt.upd S (b, blk'.z, blk'.st)) oldt (fun q => oldt q ∨ q = blk'.st) w w := by
    refine ⟨fun b' hlt hn => ⟨rfl, ?_⟩, fun s' b' z' st' e ho => ?_, fun _ h => .inl h, fun _ _ _ _ _ _ => rfl, fun _ _ _ => Iff.rfl⟩
    · rintro (h1 | ⟨s', z', st', e⟩)
      · exact hn (.inl h1)
      · simp only [Map.upd] at e
        split at e
        · cases e; exact hn (.inl hav)
        · exact hn (.inr ⟨s', z', st', e⟩)
    · simp only [Map.upd] at e
      split at e
      · cases e; exact absurd ho hst
      · exact e
  refine ⟨⟨?_, fun x u hx hr => RelV.mono k x u (h.conv x u hx hr), fun i hi => ?_, fun s' hs' hd' b' z' st' e => ?_⟩, k⟩
  · refine ⟨fun s' blk1 hg => ?_, fun s' q' h' => .inl (h.heap.vold s' q' h'), fun s' b' z' st' e => ?_, fun s1 s2 b' z z' st st' e1 e2 => ?_⟩
    · rw [Heap.get_set] at hg
      by_cases hq : S = s'
      · subst hq
        simp only [if_true] at hg
        cases hg
        refine .inr ⟨fun h' => hst (h.heap.vold _ _ h'), b, by simp [Map.upd], hBb, .inr rfl, c, ty, hb, fun i cs hi => ?_⟩
        obtain ⟨h1, h2⟩ := hcr i cs (hels i cs hi)
        refine ⟨by rw [hz]; exact h1, fun j x hj => ?_⟩
        obtain ⟨_, u, h3, h4⟩ := h2 j x hj
        have hx := clL_at (dryEls_at hdry i cs hi) j x hj
        exact ⟨fun _ => hx, u, by rw [hz]; exact h3, dry_rel hx h4⟩
      · simp only [hq, if_false] at hg
        rcases h.heap.there s' blk1 hg with ⟨h1, h2, h3⟩ | ⟨hv, b', e, h1, h2, c', ty', h3, h4⟩
        · exact .inl ⟨h1, h2, .inl h3⟩
        exact .inr ⟨hv, b', by simp [Map.upd, hq, e], h1, .inl h2, c', ty', h3, h4.mono fun v u hv => RelV.mono k v u hv⟩
    · simp only [Map.upd] at e
      split at e
      · cases e; exact ⟨hBb, (Array.getElem?_eq_some_iff.1 hb).1⟩
      · exact h.heap.inb _ _ _ _ e
    · simp only [Map.upd] at e1 e2
      split at e1 <;> split at e2
      · rename_i a1 a2; exact a1.symm.trans a2
      · cases e1; exact absurd e2 (hno _ _ _)
      · cases e2; exact absurd e1 (hno _ _ _)
      · exact h.heap.inj _ _ _ _ _ _ _ e1 e2
  · rintro (h1 | h1)
    · exact h.stamps i (by omega) h1
    · rw [hst'] at h1; injection h1 with h1 _; omega
  · have hmem := List.mem_filter.1 hs'
    obtain ⟨h1, h2, h3⟩ := h.free s' hmem.1 hd' b' z' st' e
    refine ⟨h1, h2, fun s'' z'' st'' e' => ?_⟩
    simp only [Map.upd] at e'
    split at e'
    · cases e'
      have := hc.inj _ _ _ _ _ _ _ e hρ
      simp [this] at hmem
    · exact h3 _ _ _ e'

/-- an empty list that stands for nil -/
theorem Put.virt (h : Put all d B ρc oldc w st j R ρt oldt Ht) (S : Site) (z : Nat) (leaf : Bool) :
    Put all d B ρc oldc w st (j + 1) R ⟨ρt.m, ρt.av, fun s q => ρt.vt s q ∨ (s = S ∧ q = (j + 1) :: st)⟩ (fun q => oldt q ∨ q = (j + 1) :: st) (Ht.set S ⟨(j + 1) :: st, [], z, leaf⟩) ∧
      Keep ρt ⟨ρt.m, ρt.av, fun s q => ρt.vt s q ∨ (s = S ∧ q = (j + 1) :: st)⟩ oldt (fun q => oldt q ∨ q = (j + 1) :: st) w w := by
  have hst : ¬ oldt ((j + 1) :: st) := h.stamps j (Nat.le_refl _)
  have k : Keep ρt ⟨ρt.m, ρt.av, fun s q => ρt.vt s q ∨ (s = S ∧ q = (j + 1) :: st)⟩ oldt (fun q => oldt q ∨ q = (j + 1) :: st) w w := by
    refine ⟨fun b' hlt hn => ⟨rfl, hn⟩, fun _ _ _ _ e _ => e, fun _ h => .inl h, fun _ _ _ _ _ _ => rfl, fun s q hq => ⟨fun h' => ?_, fun h' => .inl h'⟩⟩
    rcases h' with h' | ⟨_, e⟩
    · exact h'
    · subst e; exact absurd hq hst
  refine ⟨⟨⟨fun s' blk1 hg => ?_, fun s' q' h' => ?_, h.heap.inb, h.heap.inj⟩, fun x u hx hr => RelV.mono k x u (h.conv x u hx hr), fun i hi => ?_, h.free⟩, k⟩
  · rw [Heap.get_set] at hg
    by_cases hq : S = s'
    · subst hq
      simp only [if_true] at hg
      cases hg
      exact .inl ⟨.inr ⟨rfl, rfl⟩, rfl, .inr rfl⟩
    · simp only [hq, if_false] at hg
      rcases h.heap.there s' blk1 hg with ⟨h1, h2, h3⟩ | ⟨hv, b', e, h1, h2, c', ty', h3, h4⟩
      · exact .inl ⟨.inl h1, h2, .inl h3⟩
      refine .inr ⟨?_, b', e, h1, .inl h2, c', ty', h3, h4.mono fun v u hv => RelV.mono k v u hv⟩
      rintro (h' | ⟨e', _⟩)
      · exact hv h'
      · exact hq e'.symm
  · rcases h' with h' | ⟨_, e⟩
    · exact .inl (h.heap.vold _ _ h')
    · exact .inr e
  · rintro (h1 | h1)
    · exact h.stamps i (by omega) h1
    · injection h1 with h1 _; omega

theorem Put.weaken {R' : List Site} (h : Put all d B ρc oldc w st j R ρt oldt Ht) (hR : ∀ s ∈ R', s ∈ R) : Put all d B ρc oldc w st j R' ρt oldt Ht :=
  ⟨h.heap, h.conv, h.stamps, fun s hs => h.free s (hR s hs)⟩

/-- what comes of putting something in its place -/
def Puts (all : Bool) (d D B : Nat) (ρc : Map) (oldc : List Nat → Prop) (w : World) (st : List Nat) (j' : Nat) (R' : List Site) (ρt : Map) (oldt : List Nat → Prop) (Ht H' : Heap) (G : Map → (List Nat → Prop) → Prop) : Prop :=
  ∃ ρ' old', Put all d B ρc oldc w st j' R' ρ' old' H' ∧ G ρ' old' ∧ Keep ρt ρ' oldt old' w w ∧ (∀ q, old' q → oldt q ∨ ∃ τ, q = τ ++ st) ∧ ρ'.av = ρt.av ∧ ∀ s : Site, s.d ≠ D → ρ' s = ρt s ∧ H'.get s = Ht.get s
theorem Keep.refl (ρ : Map) (old : List Nat → Prop) (w : World) : Keep ρ ρ old old w w := ⟨fun _ _ h => ⟨rfl, h⟩, fun _ _ _ _ e _ => e, fun _ h => h, fun _ _ _ _ _ _ => rfl, fun _ _ _ => Iff.rfl⟩
theorem Keep.trans {ρ1 ρ2 ρ3 : Map} {o1 o2 o3 : List Nat → Prop} {w1 w2 w3 : World} (h : Keep ρ1 ρ2 o1 o2 w1 w2) (k : Keep ρ2 ρ3 o2 o3 w2 w3) (hsz : w1.heap.size ≤ w2.heap.size) : Keep ρ1 ρ3 o1 o3 w1 w3 := by
  refine ⟨fun b hb hn => ?_, fun s b z st e ho => ?_, fun q hq => k.olds q (h.olds q hq), fun s b z st e ho => ?_, fun s q hq => (k.vts s q (h.olds q hq)).trans (h.vts s q hq)⟩
  · obtain ⟨h1, h2⟩ := h.stable b hb hn
    obtain ⟨h3, h4⟩ := k.stable b (by omega) h2
    exact ⟨h3.trans h1, h4⟩
  · exact h.refs _ _ _ _ (k.refs _ _ _ _ e (h.olds _ ho)) ho
  · rw [k.sizes _ _ _ _ e (h.olds _ ho), h.sizes _ _ _ _ (k.refs _ _ _ _ e (h.olds _ ho)) ho]

theorem put_virt {y : AV} {u : Value} {R' : List Site} {j' z : Nat} {leaf : Bool} {H' : Heap} (h : Put all d B ρc oldc w st j R' ρt oldt Ht) (hu : ∃ a, u = .slice a 0 0) (ht : thawC D T st j Ht (.own z [] leaf) = (y, j', H')) :
    Puts all d D B ρc oldc w st j' R' ρt oldt Ht H' fun ρ' old' => RelV ρ' old' w y u := by
  simp only [thawC] at ht
  cases ht
  obtain ⟨k1, k2⟩ := h.virt ⟨D, T, j⟩ z leaf
  refine ⟨_, _, k1, ?_, k2, ?_, rfl, fun s1 hs1 => ⟨rfl, by rw [Heap.get_set, if_neg (by rintro rfl; exact hs1 rfl)]⟩⟩
  · simp only [RelV]
    exact ⟨.inr trivial, .inl ⟨.inr ⟨trivial, trivial⟩, hu, rfl⟩⟩
  · rintro q (hq | hq)
    · exact .inl hq
    · exact .inr ⟨[j + 1], by rw [hq]; rfl⟩
/-- what may be told of a result: as it is packed, but a nil slice may be told as an empty list -/
def PkC (all : Bool) (d : Nat) (H : Heap) (x x' : AV) : Prop := packC all d H x = some x' ∨ (packC all d H x = some .nils ∧ ∃ z leaf, x' = .own z [] leaf)
def All2 (F : AV → AV → Prop) : List AV → List AV → Prop
  | [], [] => True
  | a :: r, b :: s => F a b ∧ All2 F r s
  | _, _ => False
def PkA (all : Bool) (d : Nat) (H : Heap) (x x' : AV) : Prop := (∃ cs cs', x = .agg cs ∧ x' = .agg cs' ∧ All2 (PkC all d H) cs cs') ∨ ((∀ cs, x ≠ .agg cs) ∧ PkC all d H x x')
def PkT (all : Bool) (d : Nat) (H : Heap) (x x' : AV) : Prop := (∃ cs cs', x = .tup cs ∧ x' = .tup cs' ∧ All2 (PkA all d H) cs cs') ∨ ((∀ cs, x ≠ .tup cs) ∧ PkA all d H x x')
theorem all2_of {f : AV → Option AV} {F : AV → AV → Prop} (hF : ∀ x x', f x = some x' → F x x') : ∀ {xs xs' : List AV}, optList f xs = some xs' → All2 F xs xs'
  | [], xs', h => by simp only [optList] at h; cases h; trivial
  | x :: r, xs', h => by
    obtain ⟨y, s, h1, h2, rfl⟩ := optList_cons h
    exact ⟨hF _ _ h1, all2_of hF h2⟩
theorem pkA_of {H : Heap} {x x' : AV} (h : packA all d H x = some x') : PkA all d H x x' := by
  cases x with
  | agg cs =>
    simp only [packA] at h
    cases hq : optList (packC all d H) cs with
    | none => simp [hq] at h
    | some l =>
      simp [hq] at h; subst h
      exact .inl ⟨cs, l, rfl, rfl, all2_of (F := PkC all d H) (fun _ _ h => .inl h) hq⟩
  | _ =>
    simp only [packA] at h
    exact .inr ⟨by simp, .inl h⟩
theorem pkT_of {H : Heap} {x x' : AV} (h : packT all d H x = some x') : PkT all d H x x' := by
  cases x with
  | tup cs =>
    simp only [packT] at h
    cases hq : optList (packA all d H) cs with
    | none => simp [hq] at h
    | some l =>
      simp [hq] at h; subst h
      exact .inl ⟨cs, l, rfl, rfl, all2_of (F := PkA all d H) (fun _ _ h => pkA_of h) hq⟩
  | _ =>
    simp only [packT] at h
    exact .inr ⟨by simp, pkA_of h⟩

theorem put_cell (hc : HRel Bc ρc oldc w Hc) {x x' y : AV} {u : Value} {R' : List Site} {j' : Nat} {H' : Heap} (h : Put all d B ρc oldc w st j (x.refs ++ R') ρt oldt Ht) (hdis : ∀ s ∈ x.refs, s ∉ R')
    (hp0 : PkC all d Hc x x') (hr : RelV ρc oldc w x u) (ht : thawC D T st j Ht x' = (y, j', H')) :
    Puts all d D B ρc oldc w st j' R' ρt oldt Ht H' fun ρ' old' => RelV ρ' old' w y u := by
  rcases hp0.symm with ⟨hp, z0, leaf0, rfl⟩ | hp
  · refine put_virt (h.weaken fun s hs => List.mem_append_right _ hs) ?_ ht
    unfold packC at hp
    split at hp
    · (repeat' split at hp) <;> cases hp
    · (repeat' split at hp) <;> cases hp
    · cases hp
    · cases hp
    · cases hp
    · cases hp
    · cases hp
    · split at hp
      · cases hp
      · cases hp; exact ⟨none, by simpa only [RelV] using hr⟩
  have stay : x' = x → (all = true → x.dry = true) → (∀ z els l, x ≠ .own z els l) → (∀ cs l, x ≠ .ownp cs l) → Puts all d D B ρc oldc w st j' R' ρt oldt Ht H' fun ρ' old' => RelV ρ' old' w y u := by
    rintro rfl hdry h1 h2
    have e : (y, j', H') = (x', j, Ht) := by
      rw [← ht]
      cases x' <;> first | rfl | exact absurd rfl (h1 _ _ _) | exact absurd rfl (h2 _ _)
    cases e
    exact ⟨ρt, oldt, h.weaken (fun s hs => List.mem_append_right _ hs), h.conv _ _ hdry hr, Keep.refl _ _ _, fun q hq => .inl hq, rfl, fun s _ => ⟨rfl, rfl⟩⟩
  unfold packC at hp
  split at hp <;> first | (cases hp; done) | skip
  · rename_i s st0 z off len full
    split at hp
    · rename_i hd
      split at hp
      · cases hp
      · rename_i blk hrow
        split at hp <;> first | (cases hp; done) | skip
        rename_i hcond
        obtain ⟨c1, c2, c3⟩ := hcond
        cases hp
        subst c1
        simp only [thawC] at ht
        cases ht
        simp only [RelV] at hr
        rcases hc.row hrow with ⟨hv1, he, _, _⟩ | ⟨hv1, b, hρ, hBb, hs, hg, c, ty, hb, hcr⟩
        · obtain ⟨ho, ⟨_, hu, h0⟩ | ⟨hv2, _⟩⟩ := hr
          · subst h0
            exact put_virt (D := D) (T := T) (z := z) (leaf := blk.leaf) (h.weaken fun s hs => List.mem_append_right _ hs) hu (by simp only [thawC, List.take_zero])
          · exact absurd hv1 hv2
        obtain ⟨ho, ⟨hv2, _⟩ | ⟨_, p, cap, hu, hlc, hfull, hq⟩⟩ := hr
        · exact absurd hv2 hv1
        obtain ⟨bal, bdry⟩ := hcr.flat_rel
        obtain ⟨q1, q2, q3⟩ := hq _ _ hρ
        have hdry : dryEls (blk.els.take len) = true := by
          cases hl : blk.leaf with
          | true =>
            have := bdry hl
            have tk : ∀ (l : List (List AV)) (n : Nat), dryEls l = true → dryEls (l.take n) = true := by
              intro l
              induction l with
              | nil => intro n _; simp [dryEls]
              | cons c r ih =>
                intro n hh
                simp only [dryEls, Bool.and_eq_true] at hh
                cases n with
                | zero => simp [dryEls]
                | succ n => simp only [List.take_succ_cons, dryEls, Bool.and_eq_true]; exact ⟨hh.1, ih n hh.2⟩
            exact tk _ _ this
          | false => simpa [hl] using c3
        have hz : z = blk.z := q1.symm
        obtain ⟨k1, k2⟩ := h.claim hc ⟨D, T, j⟩ (s := s) (by simp [AV.refs]) hd (blk := blk) (blk' := ⟨(j + 1) :: st, blk.els.take len, z, blk.leaf⟩) hρ hb hcr hz (fun i cs hi => by
          simp only [List.getElem?_take] at hi
          split at hi
          · exact hi
          · cases hi) hdry rfl
        refine ⟨_, _, k1.weaken fun s' hs' => ?_, ?_, k2, ?_, rfl, fun s1 hs1 => ⟨by simp only [Map.upd]; rw [if_neg (by rintro rfl; exact hs1 rfl)], by rw [Heap.get_set, if_neg (by rintro rfl; exact hs1 rfl)]⟩⟩
        · refine List.mem_filter.2 ⟨List.mem_append_right _ hs', ?_⟩
          have := hdis s (by simp [AV.refs])
          simp only [decide_not, Bool.not_eq_true', decide_eq_false_iff_not]
          rintro rfl; exact this hs'
        · have hnl : (blk.els.take len).length = len := by simp; omega
          simp only [RelV, hnl]
          refine ⟨.inr trivial, .inr ⟨fun h' => (by rcases h.stamps j (Nat.le_refl _) (h.heap.vold _ _ h')), p, cap, hu, hlc, fun hf => by simp at hf, fun b' z' e => ?_⟩⟩
          simp only [Map.upd, if_true, Option.some.injEq, Prod.mk.injEq] at e
          obtain ⟨rfl, rfl, _⟩ := e
          exact ⟨rfl, q2, q3⟩
        · rintro q (hq | hq)
          · exact .inl hq
          · exact .inr ⟨[j + 1], by rw [hq]; rfl⟩
    · split at hp
      · cases hp
      · rename_i hall
        cases hp
        exact stay rfl (fun ha => absurd ha hall) (by simp) (by simp)
  · rename_i s st0 i off
    split at hp
    · rename_i hd
      split at hp
      · cases hp
      · rename_i blk hrow
        split at hp <;> first | (cases hp; done) | skip
        rename_i cs hcs
        split at hp <;> first | (cases hp; done) | skip
        rename_i hcond
        obtain ⟨c1, c2, c3⟩ := hcond
        cases hp
        subst c1; subst c2
        simp only [thawC] at ht
        cases ht
        obtain ⟨b, hρ, hBb, hs, hg, c, ty, hb, hcr⟩ := hc.at hrow (i := 0) (cs := cs) (by rw [hcs]; rfl)
        obtain ⟨bal, bdry⟩ := hcr.flat_rel
        simp only [RelV] at hr
        obtain ⟨ho, p, hu, hq⟩ := hr
        have q1 := hq _ _ hρ
        have hdry : dryEls [cs] = true := by
          cases hl : blk.leaf with
          | true => rw [← hcs]; exact bdry hl
          | false => simpa [hl, dryEls] using c3
        have hz : cs.length = blk.z := bal cs (by rw [hcs]; simp)
        obtain ⟨k1, k2⟩ := h.claim hc ⟨D, T, j⟩ (s := s) (by simp [AV.refs]) hd (blk := blk) (blk' := ⟨(j + 1) :: st, [cs], cs.length, blk.leaf⟩) hρ hb hcr hz (fun i ds hi => by rw [hcs]; exact hi) hdry rfl
        refine ⟨_, _, k1.weaken fun s' hs' => ?_, ?_, k2, ?_, rfl, fun s1 hs1 => ⟨by simp only [Map.upd]; rw [if_neg (by rintro rfl; exact hs1 rfl)], by rw [Heap.get_set, if_neg (by rintro rfl; exact hs1 rfl)]⟩⟩
        · refine List.mem_filter.2 ⟨List.mem_append_right _ hs', ?_⟩
          have := hdis s (by simp [AV.refs])
          simp only [decide_not, Bool.not_eq_true', decide_eq_false_iff_not]
          rintro rfl; exact this hs'
        · simp only [RelV]
          refine ⟨.inr trivial, p, hu, fun b' z' e => ?_⟩
          simp only [Map.upd, if_true, Option.some.injEq, Prod.mk.injEq] at e
          obtain ⟨rfl, rfl, _⟩ := e
          rw [q1]; simp
        · rintro q (hq | hq)
          · exact .inl hq
          · exact .inr ⟨[j + 1], by rw [hq]; rfl⟩
    · split at hp
      · cases hp
      · rename_i hall
        cases hp
        exact stay rfl (fun ha => absurd ha hall) (by simp) (by simp)
  · rename_i n1 n2 n3 n4 n5 n6 n7
    split at hp
    · cases hp
    · rename_i hall
      cases hp
      refine stay rfl (fun ha => ?_) (fun z els l e => n6 _ _ _ e) (fun cs l e => n7 _ _ e)
      simpa [ha] using hall

theorem puts_bind {R1 R2 : List Site} {j1 j2 : Nat} {H1 H2 : Heap} {G1 G2 : Map → (List Nat → Prop) → Prop} (h : Puts all d D B ρc oldc w st j1 R1 ρt oldt Ht H1 G1)
    (k : ∀ ρ1 old1, Put all d B ρc oldc w st j1 R1 ρ1 old1 H1 → G1 ρ1 old1 → Puts all d D B ρc oldc w st j2 R2 ρ1 old1 H1 H2 fun ρ2 old2 => (Keep ρ1 ρ2 old1 old2 w w → G2 ρ2 old2)) :
    Puts all d D B ρc oldc w st j2 R2 ρt oldt Ht H2 G2 := by
  obtain ⟨ρ1, old1, h1, h2, h3, h4, h5, h6⟩ := h
  obtain ⟨ρ2, old2, k1, k2, k3, k4, k5, k6⟩ := k ρ1 old1 h1 h2
  refine ⟨ρ2, old2, k1, k2 k3, h3.trans k3 (Nat.le_refl _), fun q hq => ?_, k5.trans h5, fun s hs => ⟨(k6 s hs).1.trans (h6 s hs).1, (k6 s hs).2.trans (h6 s hs).2⟩⟩
  rcases k4 q hq with h | h
  · exact h4 q h
  · exact .inr h

/-- a list of things, each put in its place -/
theorem put_list (F : AV → AV → Prop) (g : Nat → Heap → AV → AV × Nat × Heap)
    (hfg : ∀ {x x' y : AV} {u : Value} {R' : List Site} {j j' : Nat} {Ht H' : Heap} {ρt : Map} {oldt : List Nat → Prop}, Put all d B ρc oldc w st j (x.refs ++ R') ρt oldt Ht → distinct (x.refs ++ R') = true → F x x' → RelV ρc oldc w x u → g j Ht x' = (y, j', H') →
      Puts all d D B ρc oldc w st j' R' ρt oldt Ht H' fun ρ' old' => RelV ρ' old' w y u) :
    ∀ (xs xs' ys : List AV) (us : List Value) (R' : List Site) (j j' : Nat) (Ht H' : Heap) (ρt : Map) (oldt : List Nat → Prop), Put all d B ρc oldc w st j (AV.refsL xs ++ R') ρt oldt Ht → distinct (AV.refsL xs ++ R') = true → All2 F xs xs' → RelL ρc oldc w xs us → thawL g j Ht xs' = (ys, j', H') →
      Puts all d D B ρc oldc w st j' R' ρt oldt Ht H' fun ρ' old' => RelL ρ' old' w ys us
  | [], _ :: _, ys, us, R', j, j', Ht, H', ρt, oldt, h, hd, hp, hr, ht => hp.elim
  | _ :: _, [], ys, us, R', j, j', Ht, H', ρt, oldt, h, hd, hp, hr, ht => hp.elim
  | [], [], ys, us, R', j, j', Ht, H', ρt, oldt, h, hd, hp, hr, ht => by
    simp only [thawL] at ht; cases ht
    cases us with
    | nil => exact ⟨ρt, oldt, h, by simp only [RelL], Keep.refl _ _ _, fun q hq => .inl hq, rfl, fun s _ => ⟨rfl, rfl⟩⟩
    | cons _ _ => simp only [RelL] at hr
  | x :: xs, x' :: s, ys, us, R', j, j', Ht, H', ρt, oldt, h, hd, hp, hr, ht => by
    obtain ⟨h1, h2⟩ := hp
    cases us with
    | nil => simp only [RelL] at hr
    | cons u us =>
      simp only [RelL] at hr
      simp only [AV.refsL, List.append_assoc] at h hd
      simp only [thawL] at ht
      cases hg : g j Ht x' with
      | mk y r =>
        obtain ⟨j1, H1⟩ := r
        rw [hg] at ht
        simp only at ht
        cases hl : thawL g j1 H1 s with
        | mk l r =>
          obtain ⟨j2, H2⟩ := r
          rw [hl] at ht
          simp only at ht
          cases ht
          have hd2 : distinct (AV.refsL xs ++ R') = true := by
            have : ∀ (a b : List Site), distinct (a ++ b) = true → distinct b = true := by
              intro a
              induction a with
              | nil => intro b h; simpa using h
              | cons c a ih => intro b h; simp only [List.cons_append, distinct, Bool.and_eq_true] at h; exact ih b h.2
            exact this _ _ hd
          refine puts_bind (hfg h hd h1 hr.1 hg) fun ρ1 old1 k1 k2 => ?_
          obtain ⟨ρ2, old2, m1, m2, m3, m4, m5, m6⟩ := put_list F g hfg xs s l us R' j1 j' H1 H' ρ1 old1 k1 hd2 h2 hr.2 hl
          exact ⟨ρ2, old2, m1, fun k => by simp only [RelL]; exact ⟨RelV.mono k _ _ k2, m2⟩, m3, m4, m5, m6⟩

theorem dis_not : ∀ {a b : List Site}, distinct (a ++ b) = true → ∀ s ∈ a, s ∉ b
  | [], b, _, s, hs => by simp at hs
  | c :: a, b, h, s, hs => by
    simp only [List.cons_append, distinct, Bool.and_eq_true, decide_eq_true_eq] at h
    rcases List.mem_cons.1 hs with rfl | hs
    · exact fun hb => h.1 (List.mem_append_right _ hb)
    · exact dis_not h.2 s hs

theorem packC_ne {H : Heap} {x x' : AV} (h : packC all d H x = some x') : (∀ cs, x' ≠ .agg cs) ∧ (∀ cs, x' ≠ .tup cs) := by
  unfold packC at h
  split at h <;> first | (cases h; done) | skip
  · (repeat' split at h) <;> first | (cases h; done) | (cases h; exact ⟨by simp, by simp⟩)
  · (repeat' split at h) <;> first | (cases h; done) | (cases h; exact ⟨by simp, by simp⟩)
  · rename_i n3 n4 n5 n6 n7
    split at h
    · cases h
    · cases h; exact ⟨fun cs e => n3 cs e, fun cs e => n4 cs e⟩
theorem pkC_ne {H : Heap} {x x' : AV} (h : PkC all d H x x') : (∀ cs, x' ≠ .agg cs) ∧ (∀ cs, x' ≠ .tup cs) := by
  rcases h with h | ⟨_, z, l, rfl⟩
  · exact packC_ne h
  · exact ⟨by simp, by simp⟩
theorem put_agg (hc : HRel Bc ρc oldc w Hc) {x x' y : AV} {u : Value} {R' : List Site} {j j' : Nat} {Ht H' : Heap} {ρt : Map} {oldt : List Nat → Prop} (h : Put all d B ρc oldc w st j (x.refs ++ R') ρt oldt Ht) (hd : distinct (x.refs ++ R') = true)
    (hp : PkA all d Hc x x') (hr : RelV ρc oldc w x u) (ht : thawA D T st j Ht x' = (y, j', H')) :
    Puts all d D B ρc oldc w st j' R' ρt oldt Ht H' fun ρ' old' => RelV ρ' old' w y u := by
  rcases hp with ⟨cs, l, rfl, rfl, hq⟩ | ⟨_, h1⟩
  · simp only [RelV] at hr
    obtain ⟨us, rfl, hrl⟩ := hr
    simp only [thawA] at ht
    cases hl : thawL (thawC D T st) j Ht l with
    | mk ys r =>
      obtain ⟨j1, H1⟩ := r
      rw [hl] at ht
      simp only at ht
      cases ht
      simp only [AV.refs] at h hd
      obtain ⟨ρ2, old2, m1, m2, m3, m4, m5, m6⟩ := put_list (PkC all d Hc) (thawC D T st) (fun h hd hp hr ht => put_cell hc h (dis_not hd) hp hr ht) cs l ys us.toList R' j j' Ht H' ρt oldt h hd hq hrl hl
      exact ⟨ρ2, old2, m1, by simp only [RelV]; exact ⟨us, rfl, m2⟩, m3, m4, m5, m6⟩
  · refine put_cell (D := D) (T := T) hc h (dis_not hd) h1 hr ?_
    rw [← ht]
    cases x' <;> first | rfl | exact absurd rfl ((pkC_ne h1).1 _)

theorem put_tup (hc : HRel Bc ρc oldc w Hc) {x x' y : AV} {u : Value} {Ht H' : Heap} {ρt : Map} {oldt : List Nat → Prop} (h : Put all d B ρc oldc w st 0 x.refs ρt oldt Ht) (hd : distinct x.refs = true)
    (hp : PkT all d Hc x x') (hr : RelV ρc oldc w x u) (ht : thawT D T st Ht x' = (y, H')) :
    ∃ j', Puts all d D B ρc oldc w st j' [] ρt oldt Ht H' fun ρ' old' => RelV ρ' old' w y u := by
  have h0 : Put all d B ρc oldc w st 0 (x.refs ++ []) ρt oldt Ht := by simpa using h
  have hd0 : distinct (x.refs ++ []) = true := by simpa using hd
  rcases hp with ⟨cs, l, rfl, rfl, hq⟩ | ⟨_, h1⟩
  · simp only [RelV] at hr
    obtain ⟨us, rfl, hrl⟩ := hr
    simp only [thawT] at ht
    cases hl : thawL (thawA D T st) 0 Ht l with
    | mk ys r =>
      obtain ⟨j1, H1⟩ := r
      rw [hl] at ht
      simp only at ht
      cases ht
      simp only [AV.refs] at h0 hd0
      obtain ⟨ρ2, old2, m1, m2, m3, m4, m5, m6⟩ := put_list (PkA all d Hc) (thawA D T st) (fun h hd hp hr ht => put_agg hc h hd hp hr ht) cs l ys us.toList [] 0 j1 Ht H' ρt oldt h0 hd0 hq hrl hl
      exact ⟨j1, ρ2, old2, m1, by simp only [RelV]; exact ⟨us, rfl, m2⟩, m3, m4, m5, m6⟩
  · have hne : ∀ cs, x' ≠ .tup cs := by
      rcases h1 with ⟨cs, cs', rfl, rfl, _⟩ | ⟨_, h1⟩
      · simp
      · exact (pkC_ne h1).2
    cases hg : thawA D T st 0 Ht x' with
    | mk z r =>
      obtain ⟨j1, H1⟩ := r
      have e : (y, H') = (z, H1) := by
        rw [← ht]
        cases x' <;> first | (simp only [thawT, hg]; done) | exact absurd rfl (hne _)
      cases e
      exact ⟨j1, put_agg hc h0 hd0 h1 hr hg⟩
end
end Go.Proofs.Ytnphdnokedhhkaa.Fw
namespace Go.Proofs.Ytnphdnokedhhkaa.Fw
open Go Go.RowKit

def FnIs (P : Program) (f : FuncId) : Prop := ∃ fn, P.funcs[f]? = some fn ∧ fn.name ≠ "runtime.NumGoroutine" ∧ fn.body.isSome = true

/-- what a call leaves -/
def CallPost (D B : Nat) (H : Heap) (ρ : Map) (old : List Nat → Prop) (w : World) (r : AV) (H' : Heap) (S : List Nat → Prop) (e : Ending) (w' : World) : Prop :=
  ∃ u ρ' old', e = .returned u ∧ Keep ρ ρ' old old' w w' ∧ RelV ρ' old' w' r u ∧ HRel B ρ' old' w' H' ∧ Below B w w' ∧ (∀ q, old' q → old q ∨ S q) ∧ ρ'.av = ρ.av ∧ Fr D H ρ w H' ρ' w'

/-- nothing lies deeper -/
def Low (d : Nat) (H : Heap) : Prop := ∀ s b, H.get s = some b → s.d ≤ d
theorem Low.nil (d : Nat) : Low d [] := fun s b h => by simp [Heap.get] at h
theorem Low.set {d : Nat} {H : Heap} (h : Low d H) {s : Site} (hs : s.d ≤ d) (b : Blk) : Low d (H.set s b) := fun x c hx => by
  rw [Heap.get_set] at hx
  split at hx
  · rename_i e; subst e; exact hs
  · exact h x c hx
theorem Low.ext {d : Nat} {H G : Heap} (h : Low d H) (e : ∀ x, G.get x = H.get x) : Low d G := fun s b hb => h s b (by rw [← e]; exact hb)

theorem get_consH (H : Heap) (s : Site) (G : Heap) (x : Site) (hG : ∀ b, G.get x = some b → H.get x = some b) : (consH H s G).get x = if s = x then H.get x else G.get x := by
  unfold consH
  by_cases hx : s = x
  · subst hx
    rw [if_pos rfl]
    cases h : H.get s with
    | none =>
      simp only
      cases hg : G.get s with
      | none => rfl
      | some b => rw [hG b hg] at h; cases h
    | some b =>
      simp only
      split
      · rename_i hi
        obtain ⟨c, hc⟩ := Option.isSome_iff_exists.1 hi
        rw [hc, ← hG c hc, h]
      · simp [Heap.get]
  · rw [if_neg hx]
    split
    · split
      · rfl
      · simp [Heap.get, hx]
    · rfl
theorem get_cutH (H : Heap) (x : Site) : ∀ l : List Site, (cutH H l).get x = if x ∈ l then H.get x else none
  | [] => by simp [cutH, Heap.get]
  | s :: r => by
    have ih := get_cutH H x r
    simp only [cutH]
    rw [get_consH H s _ x (fun b hb => by rw [ih] at hb; split at hb; exact hb; cases hb), ih]
    by_cases hx : s = x
    · subst hx; simp
    · by_cases hr : x ∈ r
      · simp [hr, hx]
      · rw [if_neg hx, if_neg hr, if_neg]
        simp [hr, Ne.symm hx]
theorem consH_same {H H2 : Heap} {s : Site} (h : H2.get s = H.get s) (G : Heap) : consH H2 s G = consH H s G := by unfold consH; rw [h]
theorem cutH_same {H H2 : Heap} : ∀ {l : List Site}, (∀ s ∈ l, H2.get s = H.get s) → cutH H2 l = cutH H l
  | [], _ => rfl
  | s :: r, h => by
    simp only [cutH]
    rw [cutH_same (l := r) fun x hx => h x (by simp [hx]), consH_same (h s (by simp))]
theorem refsOf_same {H H2 : Heap} : ∀ {l : List Site}, (∀ s ∈ l, H2.get s = H.get s) → refsOf H2 l = refsOf H l
  | [], _ => rfl
  | s :: r, h => by simp only [refsOf]; rw [h s (by simp), refsOf_same (l := r) fun x hx => h x (by simp [hx])]
theorem mem_reach {H : Heap} : ∀ (n : Nat) {l : List Site} {s : Site}, s ∈ l → s ∈ reach H n l
  | 0, l, s, h => h
  | n + 1, l, s, h => by simp only [reach]; exact List.mem_append_left _ h
theorem reach_same {H H2 : Heap} : ∀ (n : Nat) {l : List Site}, (∀ s ∈ reach H n l, H2.get s = H.get s) → reach H2 n l = reach H n l
  | 0, l, _ => rfl
  | n + 1, l, h => by
    simp only [reach] at h ⊢
    rw [refsOf_same (l := l) fun s hs => h s (List.mem_append_left _ hs), reach_same n fun s hs => h s (List.mem_append_right _ hs)]
theorem handed_same {H H2 : Heap} {args : List AV} (h : ∀ s ∈ handed H args, H2.get s = H.get s) : handed H2 args = handed H args := reach_same 4 h

/-- the places of 'G' -/
def Heap.at (G : Heap) : List Site := G.map (·.1)
theorem mem_at {G : Heap} {s : Site} : s ∈ G.at ↔ ∃ b, G.get s = some b := by
  induction G with
  | nil => simp [Heap.at, Heap.get]
  | cons x r ih =>
    obtain ⟨k, b⟩ := x
    simp only [Heap.at, List.map_cons, List.mem_cons, Heap.get]
    by_cases hk : k = s
    · subst hk; simp
    · simp only [hk, if_false, Ne.symm hk, false_or]; exact ih
theorem at_cons {x s : Site} {b : Blk} {r : Heap} : x ∈ Heap.at ((s, b) :: r) ↔ x = s ∨ x ∈ Heap.at r := by simp [Heap.at]
theorem putBack_get {H1 : Heap} {x : Site} : ∀ {G H H' : Heap}, putBack H1 G H = some H' → H'.get x = if x ∈ G.at then H1.get x else H.get x
  | [], H, H', h => by simp only [putBack] at h; cases h; simp [Heap.at]
  | (s, b) :: r, H, H', h => by
    simp only [putBack] at h
    split at h
    · rename_i b1 hb
      have := putBack_get (x := x) h
      rw [this, Heap.get_set]
      by_cases hr : x ∈ Heap.at r
      · rw [if_pos hr, if_pos (at_cons.2 (.inr hr))]
      · rw [if_neg hr]
        by_cases hs : s = x
        · subst hs; rw [if_pos rfl, if_pos (at_cons.2 (.inl rfl))]; exact hb.symm
        · rw [if_neg hs, if_neg]
          rw [at_cons]
          rintro (h | h)
          · exact hs h.symm
          · exact hr h
    · cases h
theorem putBack_any {H1 : Heap} : ∀ {G H H' : Heap} (H2 : Heap), putBack H1 G H = some H' → ∃ H2', putBack H1 G H2 = some H2'
  | [], H, H', H2, h => ⟨H2, rfl⟩
  | (s, b) :: r, H, H', H2, h => by
    simp only [putBack] at h ⊢
    split at h
    · exact putBack_any _ h
    · cases h
theorem putBack_low {d : Nat} {H1 G H H' : Heap} (h : putBack H1 G H = some H') (hG : Low d G) (hH : Low d H) : Low d H' := fun s b hb => by
  rw [putBack_get h] at hb
  split at hb
  · rename_i hs
    obtain ⟨c, hc⟩ := mem_at.1 hs
    exact hG s c hc
  · exact hH s b hb
theorem cutH_low {d : Nat} {H : Heap} {l : List Site} (h : Low d H) : Low d (cutH H l) := fun s b hb => by
  rw [get_cutH] at hb
  split at hb
  · exact h s b hb
  · cases hb

def CallerOk (P : Program) (C : Caller) : Prop := ∀ d π f args H r H', C d π f args H = some (r, H') →
  Low d H → ∀ B ρ old w (cargs : Array Value), RelL ρ old w args cargs.toList → HRel B ρ old w H → B ≤ w.heap.size → (∀ q, old q → ∀ τ m, q ≠ τ ++ m :: π) →
    FnIs P f ∧ Calls P f cargs w (CallPost d B H ρ old w r H' fun q => ∃ τ m, q = τ ++ m :: π)

/-- what a function that is spoken for leaves: as one that is handed values -/
def SpecPost (w : World) (r : AV) (e : Ending) (w' : World) : Prop :=
  ∃ r' H', CallPost 0 w.heap.size [] (ρ0 fun _ => False) old0 w r' H' (fun _ => True) e w' ∧ distinct r'.refs = true ∧ PkT true 0 H' r' r

def SpecOk (P : Program) (PP : Prog) : Prop := ∀ f g, PP.spec f = some g → FnIs P f ∧ ∀ as r, g as = some r → ∀ w (cargs : Array Value), RelL (ρ0 fun _ => False) old0 w as cargs.toList →
  Calls P f cargs w (SpecPost w r)

theorem HRel.move {B : Nat} {ρ ρt : Map} {old old' : List Nat → Prop} {w w' : World} {H Ht : Heap} (h : HRel B ρ old w H) (k : Keep ρ ρt old old' w w')
    (hg : ∀ s blk, Ht.get s = some blk → H.get s = some blk ∧ ρt s = ρ s) (hv : ∀ s q, ρt.vt s q → ρ.vt s q) (hm : ∀ s x, ρt s = some x → ρ s = some x) (hs : ∀ b, (∃ s z st, ρt s = some (b, z, st)) → w'.heap[b]? = w.heap[b]?) : HRel B ρt old' w' Ht := by
  refine ⟨fun s blk hb => ?_, fun s q h' => k.olds _ (h.vold s q (hv s q h')), fun s b z st hb => ?_, fun s s' b z z' st st' e1 e2 => h.inj _ _ _ _ _ _ _ (hm _ _ e1) (hm _ _ e2)⟩
  · obtain ⟨hb, hx⟩ := hg s blk hb
    rcases h.there s blk hb with ⟨h1, h2, h3⟩ | ⟨hnv, b, e, h1, h2, c, ty, h3, h4⟩
    · exact .inl ⟨(k.vts _ _ h3).2 h1, h2, k.olds _ h3⟩
    · rw [← hx] at e
      exact .inr ⟨fun h' => hnv (hv _ _ h'), b, e, h1, k.olds _ h2, c, ty, by rw [hs b ⟨s, _, _, e⟩]; exact h3, h4.mono fun v u hv => RelV.mono k v u hv⟩
  · obtain ⟨h1, h2⟩ := h.inb _ _ _ _ (hm _ _ hb)
    exact ⟨h1, lt_of_same h2 (hs b ⟨s, _, _, hb⟩)⟩
theorem Fr.mono {D D' : Nat} {H1 H2 : Heap} {ρ1 ρ2 : Map} {w1 w2 : World} (h : Fr D' H1 ρ1 w1 H2 ρ2 w2) (hd : D ≤ D') : Fr D H1 ρ1 w1 H2 ρ2 w2 := fun s hs => h s (by omega)
theorem Fr.put {D : Nat} {H1 H2 H3 : Heap} {ρ1 ρ2 ρ3 : Map} {w1 w2 : World} (h : Fr D H1 ρ1 w1 H2 ρ2 w2) (hp : ∀ s : Site, s.d ≠ D → ρ3 s = ρ2 s ∧ H3.get s = H2.get s) : Fr D H1 ρ1 w1 H3 ρ3 w2 := fun s hs h1 => by
  obtain ⟨a1, a2, a3⟩ := h s hs h1
  obtain ⟨b1, b2⟩ := hp s (by omega)
  exact ⟨b2.trans a1, b1.trans a2, a3⟩

section
variable {P : Program} {PP : Prog} {C : Caller} {B : Nat} {ρ : Map} {old : List Nat → Prop} {w : World} {st : List Nat} {H H' : Heap} {v : AV}

theorem freezes_rel (hH : HRel B ρ old w H) {xs xs' : List AV} {ys : List Value} (h : optList (freeze H 8) xs = some xs') (hr : RelL ρ old w xs ys) : RelL (ρ0 fun _ => False) old0 w xs' ys := by
  induction xs generalizing xs' ys with
  | nil => simp only [optList] at h; cases h; cases ys with
    | nil => simp only [RelL]
    | cons _ _ => simp only [RelL] at hr
  | cons x xs ih =>
    obtain ⟨y, s, h1, h2, rfl⟩ := optList_cons h
    cases ys with
    | nil => simp only [RelL] at hr
    | cons z zs =>
      simp only [RelL] at hr ⊢
      exact ⟨(freeze_rel hH 8 _ _ _ h1 hr.1).2, ih h2 hr.2⟩

/-- the last step: the blocks that were claimed are no longer avoided, but owned. -/
theorem drop_av {all : Bool} {d Bc j' : Nat} {ρc ρt ρ2 : Map} {oldc oldt old2 : List Nat → Prop} {w1 : World} {u : Value} (av : Nat → Prop) (hav : ∀ b, av b → ρ2.av b) (h : Put all d B ρc oldc w1 st j' [] ρ2 old2 H') (hr : RelV ρ2 old2 w1 v u) :
    Keep ρ2 ⟨ρ2.m, av, ρ2.vt⟩ old2 old2 w1 w1 ∧ RelV ⟨ρ2.m, av, ρ2.vt⟩ old2 w1 v u ∧ HRel B ⟨ρ2.m, av, ρ2.vt⟩ old2 w1 H' := by
  have k : Keep ρ2 ⟨ρ2.m, av, ρ2.vt⟩ old2 old2 w1 w1 := ⟨fun b _ hn => ⟨rfl, by
    rintro (h1 | h1)
    · exact hn (.inl (hav b h1))
    · exact hn (.inr h1)⟩, fun _ _ _ _ e _ => e, fun _ h => h, fun _ _ _ _ _ _ => rfl, fun _ _ _ => Iff.rfl⟩
  exact ⟨k, RelV.mono k _ _ hr, h.heap.move k (fun s blk hb => ⟨hb, rfl⟩) (fun _ _ h => h) (fun s x hx => hx) fun b _ => rfl⟩

/-- what was made by values is handed back. -/
theorem handBack {w1 : World} {r r' y : AV} {H1 H2 : Heap} {e : Ending} {d t : Nat} {S : List Nat → Prop} (hpost : CallPost 0 w.heap.size [] (ρ0 fun _ => False) old0 w r H1 S e w1) (hdis : distinct r.refs = true) (hpack : PkT true 0 H1 r r')
    (hth : thawT d t st H r' = (y, H2)) (hH : HRel B ρ old w H) (hB : B ≤ w.heap.size) (hst : ∀ q, old q → ∀ τ, q ≠ τ ++ st) : CallPost d B H ρ old w y H2 (fun q => ∃ τ, q = τ ++ st) e w1 := by
  obtain ⟨u, ρ1, old1, he, k1, hu, hH1, hb, hsub, hav, _⟩ := hpost
  let X : Nat → Prop := fun b => ∃ s z q, ρ1 s = some (b, z, q)
  let ρt : Map := ⟨ρ.m, fun b => ρ.av b ∨ X b, ρ.vt⟩
  have hlt : ∀ s b z q, ρ s = some (b, z, q) → b < w.heap.size := fun s b z q e => (hH.lt ⟨s, z, q, e⟩).2
  have k2 : Keep ρ ρt old old w w1 := by
    refine ⟨fun b hlt hn => ⟨hb.block b hlt, ?_⟩, fun _ _ _ _ e _ => e, fun _ h => h, fun s b z q e _ => ?_, fun _ _ _ => Iff.rfl⟩
    · rintro ((q | q) | q)
      · exact hn (.inl q)
      · have := (hH1.lt q).1; omega
      · exact hn (.inr q)
    · unfold World.shape?; rw [hb.block b (hlt s b z q e)]
  have hHt : HRel B ρt old w1 H := hH.move k2 (fun s blk hb => ⟨hb, rfl⟩) (fun _ _ h => h) (fun s x hx => hx) (fun b ⟨s, z, q, e⟩ => hb.block b (hlt s b z q e))
  have hput : Put true 0 B ρ1 old1 w1 st 0 r.refs ρt old H := by
    refine ⟨hHt, fun x u hx hxu => dry_rel (hx rfl) hxu, fun i _ ho => hst _ ho [i + 1] rfl, fun s _ hd b z q e => ⟨Nat.le_trans hB (hH1.lt ⟨s, z, q, e⟩).1, .inr ⟨s, z, q, e⟩, fun s' z' q' e' => ?_⟩⟩
    have := hlt s' b z' q' e'
    have := (hH1.lt ⟨s, z, q, e⟩).1
    omega
  obtain ⟨j', ρ2, old2, hp2, hu2, k3, hsub2, hav2, hoth⟩ := put_tup (D := d) (T := t) hH1 hput hdis hpack hu hth
  obtain ⟨k4, hu3, hH3⟩ := drop_av (ρc := ρ1) (ρt := ρt) (oldc := old1) (oldt := old) (Bc := B) ρ.av (fun b hb => by rw [hav2]; exact .inl hb) hp2 hu2
  have hmid : Fr d H ρ w H ρt w1 := fun s _ hn => ⟨hn, rfl, fun b z q e => hb.block b (hlt s b z q e)⟩
  exact ⟨u, _, old2, he, (k2.trans k3 hb.size).trans k4 hb.size, hu3, hH3, hb.mono hB, fun q hq => hsub2 q hq, rfl, hmid.put (ρ3 := ⟨ρ2.m, ρ.av, ρ2.vt⟩) fun s hs => hoth s hs⟩

theorem callIn_ok (hC : CallerOk P C) (hS : SpecOk P PP) {inl : Bool} {d t : Nat} {f : FuncId} {args : List AV} {cargs : Array Value} (h : callIn PP C inl d t st f args H = some (v, H')) (hl : Low d H) (hr : RelL ρ old w args cargs.toList) (hH : HRel B ρ old w H) (hB : B ≤ w.heap.size)
    (hst : ∀ q, old q → ∀ τ, q ≠ τ ++ st) : FnIs P f ∧ Calls P f cargs w (CallPost d B H ρ old w v H' fun q => ∃ τ, q = τ ++ st) := by
  unfold callIn at h
  split at h
  · rename_i g hg
    obtain ⟨h1, h2⟩ := hS f g hg
    split at h
    · cases h
    · rename_i as has
      split at h
      · cases h
      · rename_i r hgr
        split at h <;> first | (cases h; done) | skip
        cases hth : thawT d t st H r with
        | mk y H2 =>
        rw [hth] at h
        cases h
        refine ⟨h1, (h2 as _ hgr w cargs (freezes_rel hH has hr)).mono ?_⟩
        rintro e w' ⟨r0, H0, hpost, hdis, hpack⟩
        exact handBack hpost hdis hpack hth hH hB hst
  · split at h
    · -- in the caller's memory
      split at h
      · cases h
      · rename_i r H1 hcall
        split at h <;> first | (cases h; done) | skip
        rename_i hdis
        split at h <;> first | (cases h; done) | skip
        rename_i r' hpack
        split at h <;> first | (cases h; done) | skip
        rename_i hin
        split at h <;> first | (cases h; done) | skip
        rename_i Ht hput0
        cases hth : thawT d t st Ht r' with
        | mk y H2 =>
        rw [hth] at h
        cases h
        let G := cutH H (handed H args)
        have hGH : ∀ s b, G.get s = some b → H.get s = some b := fun s b hb => by
          rw [get_cutH] at hb
          split at hb
          · exact hb
          · cases hb
        have hGl : Low d G := cutH_low hl
        have hHG : HRel B ρ old w G := ⟨fun s blk hg => hH.there s blk (hGH s blk hg), hH.vold, hH.inb, hH.inj⟩
        obtain ⟨h1, h2⟩ := hC _ _ _ _ _ _ _ hcall (fun s b hb => Nat.le_succ_of_le (hGl s b hb)) B ρ old w cargs hr hHG hB (fun q hq τ m e => hst q hq (τ ++ [m, 0]) (by rw [e]; simp))
        refine ⟨h1, h2.mono ?_⟩
        rintro e w1 ⟨u, ρ1, old1, he, k1, hu, hH1, hb, hsub, hav, hfr⟩
        let X : Nat → Prop := fun b => ∃ s z q, d < s.d ∧ ρ1 s = some (b, z, q)
        let ρt : Map := ⟨fun s => if s.d ≤ d then ρ1 s else none, fun b => ρ1.av b ∨ X b, ρ1.vt⟩
        have hρt : ∀ s x, ρt s = some x → ρ1 s = some x ∧ s.d ≤ d := by
          intro s x hx
          simp only [ρt] at hx
          split at hx
          · exact ⟨hx, by assumption⟩
          · cases hx
        have k2 : Keep ρ1 ρt old1 old1 w1 w1 := ⟨fun b _ hn => ⟨rfl, by
          rintro ((q | ⟨s, z, q, q1, q2⟩) | ⟨s, z, q, q1⟩)
          · exact hn (.inl q)
          · exact hn (.inr ⟨s, z, q, q2⟩)
          · exact hn (.inr ⟨s, z, q, (hρt _ _ q1).1⟩)⟩, fun s b z q e _ => (hρt _ _ e).1, fun _ h => h, fun _ _ _ _ _ _ => rfl, fun _ _ _ => Iff.rfl⟩
        have hgt : ∀ s, Ht.get s = if s ∈ G.at then H1.get s else H.get s := fun s => putBack_get hput0
        have hHt : HRel B ρt old1 w1 Ht := by
          refine ⟨fun s blk hg => ?_, hH1.vold, fun s b z q e => hH1.inb _ _ _ _ (hρt _ _ e).1, fun s s' b z z' q q' e1 e2 => hH1.inj _ _ _ _ _ _ _ (hρt _ _ e1).1 (hρt _ _ e2).1⟩
          rw [hgt] at hg
          split at hg
          · rename_i hs
            obtain ⟨c, hc⟩ := mem_at.1 hs
            rcases hH1.there s blk hg with h' | ⟨hnv, b, e1, e2, e3, c, ty, e4, e5⟩
            · exact .inl h'
            exact .inr ⟨hnv, b, by simp [ρt, hGl s _ hc, e1], e2, e3, c, ty, e4, e5.mono fun v u hv => RelV.mono k2 v u hv⟩
          · rename_i hs
            have hd := hl s blk hg
            have hno : G.get s = none := by
              cases hq : G.get s with
              | none => rfl
              | some c => exact absurd (mem_at.2 ⟨c, hq⟩) hs
            rcases hH.there s blk hg with ⟨h1, h2, h3⟩ | ⟨hnv, b, e1, e2, e3, c, ty, e4, e5⟩
            · exact .inl ⟨(k1.vts _ _ h3).2 h1, h2, k1.olds _ h3⟩
            obtain ⟨f1, f2, f3⟩ := hfr s (by omega) hno
            refine .inr ⟨fun h' => hnv ((k1.vts _ _ e3).1 h'), b, ?_, e2, k1.olds _ e3, c, ty, by rw [f3 _ _ _ e1]; exact e4, e5.mono fun v u hv => RelV.mono k2 v u (RelV.mono k1 v u hv)⟩
            simp only [ρt, hd, if_true]
            rw [f2]; exact e1
        have hput : Put false (d + 1) B ρ1 old1 w1 st 0 r.refs ρt old1 Ht := by
          refine ⟨hHt, fun x u _ hxu => RelV.mono k2 x u hxu, fun i _ ho => ?_, fun s _ hd b z q e => ⟨(hH1.lt ⟨s, z, q, e⟩).1, .inr ⟨s, z, q, by omega, e⟩, fun s' z' q' e' => ?_⟩⟩
          · rcases hsub _ ho with h | ⟨τ, m, h⟩
            · exact hst _ h [i + 1] rfl
            · have := congrArg List.length h
              simp at this; omega
          · obtain ⟨e1, e2⟩ := hρt _ _ e'
            have := hH1.inj _ _ _ _ _ _ _ e e1
            subst this; omega
        obtain ⟨j', ρ2, old2, hp2, hu2, k3, hsub2, hav2, hoth⟩ := put_tup (D := d) (T := t) hH1 hput hdis (pkT_of hpack) hu hth
        obtain ⟨k4, hu3, hH3⟩ := drop_av (ρc := ρ1) (ρt := ρt) (oldc := old1) (oldt := old1) (Bc := B) ρ1.av (fun b hb => by rw [hav2]; exact .inl hb) hp2 hu2
        refine ⟨u, _, old2, he, ((k1.trans k2 hb.size).trans k3 hb.size).trans k4 hb.size, hu3, hH3, hb, fun q hq => ?_, hav, ?_⟩
        · rcases hsub2 q hq with h | h
          · rcases hsub q h with h | ⟨τ, m, h⟩
            · exact .inl h
            · exact .inr ⟨τ ++ [m, 0], by rw [h]; simp⟩
          · exact .inr h
        · have hmid : Fr d H ρ w Ht ρt w1 := by
            intro s hs hn
            have hno : G.get s = none := by
              cases hq : G.get s with
              | none => rfl
              | some c => rw [hGH s c hq] at hn; cases hn
            have hnot : ¬ s ∈ G.at := fun h => by obtain ⟨c, hc⟩ := mem_at.1 h; rw [hno] at hc; cases hc
            obtain ⟨f1, f2, f3⟩ := hfr s (by omega) hno
            refine ⟨by rw [hgt, if_neg hnot]; exact hn, ?_, f3⟩
            simp only [ρt, show s.d ≤ d by omega, if_true]
            exact f2
          exact hmid.put (ρ3 := ⟨ρ2.m, ρ1.av, ρ2.vt⟩) fun s hs => hoth s hs
    · -- by values
      split at h
      · cases h
      · rename_i as has
        split at h
        · cases h
        · rename_i r H1 hcall
          split at h <;> first | (cases h; done) | skip
          rename_i hdis
          split at h <;> first | (cases h; done) | skip
          rename_i r' hpack
          cases hth : thawT d t st H r' with
          | mk y H2 =>
          rw [hth] at h
          cases h
          have hnil : HRel w.heap.size (ρ0 fun _ => False) old0 w [] := ⟨fun s blk hg => by simp [Heap.get] at hg, fun _ _ h => h.elim, fun s b z q e => by simp [ρ0] at e, fun s s' b z z' q q' e _ => by simp [ρ0] at e⟩
          obtain ⟨h1, h2⟩ := hC _ _ _ _ _ _ _ hcall (Low.nil 0) w.heap.size (ρ0 fun _ => False) old0 w cargs (freezes_rel hH has hr) hnil (Nat.le_refl _) (fun q hq => hq.elim)
          refine ⟨h1, h2.mono ?_⟩
          intro e w1 hpost
          exact handBack hpost hdis (pkT_of hpack) hth hH hB hst
end
end Go.Proofs.Ytnphdnokedhhkaa.Fw
