/- The abstract evaluator, part M: what is handed to a call and back. -/
import Derived.Test.YtnccnmeecngopaaFwL
set_option linter.unusedVariables false
set_option linter.unusedSimpArgs false
set_option linter.unnecessarySimpa false
namespace Go.Proofs.Ytnccnmeecngopaa.Fw
open Go Go.RowKit

section
variable {P : Program} {B : Nat} {ρ ρ' : Map} {old old' : List Nat → Prop} {w w' : World} {st : List Nat} {H H' : Heap} {own : Site} {e : Env} {a : Act} {o : Oper} {m : MOp} {v : AV}

theorem dry_rel {x : AV} {y : Value} (hd : x.dry = true) (h : RelV ρ old w x y) : RelV ρ' old' w' x y := by
  cases x <;> simp only [AV.dry, Bool.false_eq_true] at hd <;> simpa only [RelV] using h
theorem dryL_rel : ∀ {xs : List AV} {ys : List Value}, dryL xs = true → RelL ρ old w xs ys → RelL ρ' old' w' xs ys
  | [], [], _, _ => by simp only [RelL]
  | x :: xs, y :: ys, hd, h => by
    simp only [dryL, Bool.and_eq_true] at hd
    simp only [RelL] at h ⊢
    exact ⟨dry_rel hd.1 h.1, dryL_rel hd.2 h.2⟩
  | [], _ :: _, _, h => by simp only [RelL] at h
  | _ :: _, [], _, h => by simp only [RelL] at h
theorem flatA_rel {x : AV} {y : Value} (hd : flatA x = true) (h : RelV ρ old w x y) : RelV ρ' old' w' x y := by
  cases x with
  | agg cs =>
    simp only [flatA] at hd
    simp only [RelV] at h ⊢
    obtain ⟨ys, e, h1⟩ := h
    exact ⟨ys, e, dryL_rel hd h1⟩
  | _ => exact dry_rel (by simpa [flatA] using hd) h
theorem flatAs_rel : ∀ {xs : List AV} {ys : List Value}, flatAs xs = true → RelL ρ old w xs ys → RelL ρ' old' w' xs ys
  | [], [], _, _ => by simp only [RelL]
  | x :: xs, y :: ys, hd, h => by
    simp only [flatAs, Bool.and_eq_true] at hd
    simp only [RelL] at h ⊢
    exact ⟨flatA_rel hd.1 h.1, flatAs_rel hd.2 h.2⟩
  | [], _ :: _, _, h => by simp only [RelL] at h
  | _ :: _, [], _, h => by simp only [RelL] at h
theorem flatT_rel {x : AV} {y : Value} (hd : flatT x = true) (h : RelV ρ old w x y) : RelV ρ' old' w' x y := by
  cases x with
  | tup cs =>
    simp only [flatT] at hd
    simp only [RelV] at h ⊢
    obtain ⟨ys, e, h1⟩ := h
    exact ⟨ys, e, flatAs_rel hd h1⟩
  | _ => exact flatA_rel (by simpa [flatT] using hd) h

/-- nothing is owned -/
def ρ0 (av : Nat → Prop) : Map := ⟨fun _ => none, av⟩
def old0 : List Nat → Prop := fun _ => False

theorem optList_cons {α β : Type} {f : α → Option β} {x : α} {r : List α} {l : List β} (h : optList f (x :: r) = some l) : ∃ y s, f x = some y ∧ optList f r = some s ∧ l = y :: s := by
  simp only [optList] at h
  split at h
  · cases h
  · rename_i y hy
    split at h
    · cases h
    · rename_i s hs
      cases h
      exact ⟨y, s, hy, hs, rfl⟩
theorem optList_at {α β : Type} {f : α → Option β} : ∀ {xs : List α} {l : List β}, optList f xs = some l → l.length = xs.length ∧ ∀ (i : Nat) (y : β), l[i]? = some y → ∃ x, xs[i]? = some x ∧ f x = some y
  | [], l, h => by simp only [optList] at h; cases h; exact ⟨rfl, fun i y hy => by simp at hy⟩
  | x :: xs, l, h => by
    obtain ⟨y, s, h1, h2, rfl⟩ := optList_cons h
    obtain ⟨h3, h4⟩ := optList_at h2
    refine ⟨by simp [h3], fun i z hz => ?_⟩
    cases i with
    | zero => simp at hz; subst hz; exact ⟨x, rfl, h1⟩
    | succ i => simp at hz; obtain ⟨x', h5, h6⟩ := h4 i z hz; exact ⟨x', by simpa using h5, h6⟩

/-- cells, from what stands there -/
theorem cells_of_at {ρ : Map} {old : List Nat → Prop} {b : Nat} (hno : ¬ owned ρ b) : ∀ {o : Nat} {cs : List AV}, (∀ (j : Nat) (c : AV), cs[j]? = some c → c.cl = true ∧ ∃ u, w.cell? ⟨b, o + j, none⟩ = some u ∧ RelV ρ old w c u) → RelCells ρ old w b o cs
  | o, [], _ => by simp only [RelCells]
  | o, c :: cs, h => by
    simp only [RelCells]
    obtain ⟨h1, u, h2, h3⟩ := h 0 c rfl
    refine ⟨h1, hno, ⟨u, h2, h3⟩, cells_of_at hno fun j d hd => ?_⟩
    have := h (j + 1) d (by simpa using hd)
    rwa [show o + (j + 1) = o + 1 + j by omega] at this
theorem els_of_at {ρ : Map} {old : List Nat → Prop} {b z : Nat} (hno : ¬ owned ρ b) : ∀ {o : Nat} {els : List (List AV)}, (∀ (i : Nat) (cs : List AV), els[i]? = some cs → cs.length = z ∧ ∀ (j : Nat) (c : AV), cs[j]? = some c → c.cl = true ∧ ∃ u, w.cell? ⟨b, o + i * z + j, none⟩ = some u ∧ RelV ρ old w c u) → RelEls ρ old w b o z els
  | o, [], _ => by simp only [RelEls]
  | o, cs :: els, h => by
    simp only [RelEls]
    obtain ⟨h1, h2⟩ := h 0 cs rfl
    refine ⟨h1, cells_of_at hno (by simpa using h2), els_of_at hno fun i ds hd => ?_⟩
    have := h (i + 1) ds (by simpa using hd)
    rwa [show o + (i + 1) * z = o + z + i * z by rw [Nat.add_mul]; omega] at this

theorem noown (av : Nat → Prop) (h : ∀ b, ¬ av b) (b : Nat) : ¬ owned (ρ0 av) b := by
  rintro (h1 | ⟨s, z, st, h1⟩)
  · exact h b h1
  · simp [ρ0] at h1

theorem freeze_rel (hH : HRel B ρ old w H) : ∀ (n : Nat) (x x' : AV) (y : Value), freeze H n x = some x' → RelV ρ old w x y → x'.cl = true ∧ RelV (ρ0 fun _ => False) old0 w x' y
  | 0, x, x', y, h, _ => by simp [freeze] at h
  | n + 1, x, x', y, h, hr => by
    have hno : ∀ b, ¬ owned (ρ0 fun _ => False) b := noown _ (fun _ h => h)
    have ih := freeze_rel hH n
    have ihL : ∀ (xs xs' : List AV) (ys : List Value), optList (freeze H n) xs = some xs' → RelL ρ old w xs ys → AV.clL xs' = true ∧ RelL (ρ0 fun _ => False) old0 w xs' ys := by
      intro xs
      induction xs with
      | nil =>
        intro xs' ys h hr
        simp only [optList] at h; cases h
        cases ys with
        | nil => exact ⟨rfl, by simp only [RelL]⟩
        | cons _ _ => simp only [RelL] at hr
      | cons x xs ihx =>
        intro xs' ys h hr
        obtain ⟨y, s, h1, h2, rfl⟩ := optList_cons h
        cases ys with
        | nil => simp only [RelL] at hr
        | cons z zs =>
          simp only [RelL] at hr
          obtain ⟨k1, k2⟩ := ih _ _ _ h1 hr.1
          obtain ⟨k3, k4⟩ := ihx _ _ h2 hr.2
          simp only [AV.clL, Bool.and_eq_true, RelL]
          exact ⟨⟨k1, k3⟩, k2, k4⟩
    -- one cell of a block of ours
    have cell : ∀ (blk : Blk) (c : Array Value) (ty : TypeId) (b i j : Nat) (cs : List AV) (x : AV), w.heap[b]? = some (.cells c ty (0, 0)) → CellsRel (RelV ρ old w) blk c → blk.els[i]? = some cs → cs[j]? = some x →
        ∃ u, w.cell? ⟨b, i * blk.z + j, none⟩ = some u ∧ RelV ρ old w x u ∧ (blk.leaf = true → x.dry = true) := by
      intro blk c ty b i j cs x hb hc hi hj
      obtain ⟨_, h2⟩ := hc i cs hi
      obtain ⟨h3, u, h4, h5⟩ := h2 j x hj
      exact ⟨u, by simp [World.cell?, hb, h4], h5, h3⟩
    have close : ∀ (x : AV) (u : Value), x.cl = true → RelV ρ old w x u → RelV (ρ0 fun _ => False) old0 w x u := fun x u hc hr => RelV.closed (fun b _ _ => hno b) x u hc hr
    cases x with
    | v x => simp only [freeze] at h; cases h; exact ⟨rfl, close _ _ rfl hr⟩
    | flt b => simp only [freeze] at h; cases h; exact ⟨rfl, close _ _ rfl hr⟩
    | cpx a b => simp only [freeze] at h; cases h; exact ⟨rfl, close _ _ rfl hr⟩
    | nils => simp only [freeze] at h; cases h; exact ⟨rfl, close _ _ rfl hr⟩
    | imm cs => simp only [freeze] at h; cases h; exact ⟨rfl, close _ _ rfl hr⟩
    | lst z els => simp only [freeze] at h; cases h; exact ⟨rfl, close _ _ rfl hr⟩
    | own z els l => simp only [freeze] at h; cases h
    | ownp cs l => simp only [freeze] at h; cases h
    | junk => simp only [freeze] at h; cases h
    | agg cs =>
      simp only [freeze] at h
      cases hq : optList (freeze H n) cs with
      | none => simp [hq] at h
      | some l =>
        simp [hq] at h; subst h
        simp only [RelV] at hr ⊢
        obtain ⟨ys, e, h1⟩ := hr
        obtain ⟨k1, k2⟩ := ihL _ _ _ hq h1
        exact ⟨by simpa [AV.cl] using k1, ys, e, k2⟩
    | tup cs =>
      simp only [freeze] at h
      cases hq : optList (freeze H n) cs with
      | none => simp [hq] at h
      | some l =>
        simp [hq] at h; subst h
        simp only [RelV] at hr ⊢
        obtain ⟨ys, e, h1⟩ := hr
        obtain ⟨k1, k2⟩ := ihL _ _ _ hq h1
        exact ⟨by simpa [AV.cl] using k1, ys, e, k2⟩
    | fn f p q =>
      simp only [freeze] at h
      split at h
      · rename_i p' q' h1 h2
        cases h
        simp only [RelV] at hr ⊢
        obtain ⟨a', b', e, h3, h4⟩ := hr
        obtain ⟨k1, k2⟩ := ihL _ _ _ h1 h3
        obtain ⟨k3, k4⟩ := ihL _ _ _ h2 h4
        exact ⟨by simp [AV.cl, k1, k3], a', b', e, k2, k4⟩
      · cases h
    | ptr s st i off =>
      simp only [freeze] at h
      split at h
      · cases h
      · rename_i blk hrow
        obtain ⟨b, hρ, hBb, hs, hg, c, ty, hb, hc⟩ := hH.at hrow
        split at h
        · cases h
        · rename_i cs hi
          simp only [RelV] at hr
          obtain ⟨_, p, hp, hq⟩ := hr
          obtain rfl := hq _ _ hρ
          split at h
          · rename_i hl
            cases h
            refine ⟨rfl, ?_⟩
            simp only [RelV]
            refine ⟨b, i * blk.z + off, hp, cells_of_at (hno b) fun j c' hj => ?_⟩
            rw [List.getElem?_drop] at hj
            obtain ⟨u, h1, h2, h3⟩ := cell blk c ty b i _ cs c' hb hc hi hj
            exact ⟨dry_cl (h3 hl), u, by rw [Nat.add_assoc]; exact h1, close _ _ (dry_cl (h3 hl)) h2⟩
          · cases hq' : optList (freeze H n) (cs.drop off) with
            | none => simp [hq'] at h
            | some l =>
              simp [hq'] at h; subst h
              refine ⟨rfl, ?_⟩
              simp only [RelV]
              obtain ⟨_, h6⟩ := optList_at hq'
              refine ⟨b, i * blk.z + off, hp, cells_of_at (hno b) fun j c' hj => ?_⟩
              obtain ⟨x, h7, h8⟩ := h6 j c' hj
              rw [List.getElem?_drop] at h7
              obtain ⟨u, h1, h2, _⟩ := cell blk c ty b i _ cs x hb hc hi h7
              obtain ⟨k1, k2⟩ := ih _ _ _ h8 h2
              exact ⟨k1, u, by rw [Nat.add_assoc]; exact h1, k2⟩
    | slc s st z off len full =>
      simp only [freeze] at h
      split at h
      · cases h
      · rename_i blk hrow
        obtain ⟨b, hρ, hBb, hs, hg, c, ty, hb, hc⟩ := hH.at hrow
        split at h <;> first | (cases h; done) | skip
        rename_i hle
        simp only [RelV] at hr
        obtain ⟨_, p, cap, hp, hlc, hfull, hq⟩ := hr
        obtain ⟨q1, q2, _⟩ := hq _ _ hρ
        have fin : ∀ (els : List (List AV)), els.length = len → (∀ (i : Nat) (cs : List AV), els[i]? = some cs → cs.length = z ∧ ∀ (j : Nat) (c : AV), cs[j]? = some c → c.cl = true ∧ ∃ u, w.cell? ⟨b, off * z + i * z + j, none⟩ = some u ∧ RelV (ρ0 fun _ => False) old0 w c u) →
            (AV.lst z els).cl = true ∧ RelV (ρ0 fun _ => False) old0 w (.lst z els) y := by
          intro els hl hels
          refine ⟨rfl, ?_⟩
          simp only [RelV]
          by_cases h0 : len = 0
          · have : els = [] := List.eq_nil_of_length_eq_zero (by omega)
            subst this
            exact ⟨p, cap, by rw [hp, ← hl], by rw [hl]; exact hlc, fun h => absurd rfl h, by simp only [RelEls]⟩
          · have hpb := q2 (by omega)
            subst hpb
            exact ⟨_, cap, by rw [hp, ← hl], by rw [hl]; exact hlc, fun _ => rfl, els_of_at (hno b) hels⟩
        split at h
        · rename_i hl
          cases h
          refine fin _ (by simp; omega) fun i cs hi => ?_
          rw [List.getElem?_take] at hi
          split at hi
          · rw [List.getElem?_drop] at hi
            refine ⟨by rw [← q1]; exact (hc _ cs hi).1, fun j x hj => ?_⟩
            obtain ⟨u, h1, h2, h3⟩ := cell blk c ty b _ j cs x hb hc hi hj
            exact ⟨dry_cl (h3 hl), u, by rw [← q1, ← Nat.add_mul]; exact h1, close _ _ (dry_cl (h3 hl)) h2⟩
          · cases hi
        · cases hq' : optList (optList (freeze H n)) ((blk.els.drop off).take len) with
          | none => simp [hq'] at h
          | some l =>
            simp [hq'] at h; subst h
            obtain ⟨h5, h6⟩ := optList_at hq'
            refine fin _ (by rw [h5]; simp; omega) fun i cs hi => ?_
            obtain ⟨ds, h7, h8⟩ := h6 i cs hi
            rw [List.getElem?_take] at h7
            split at h7
            · rw [List.getElem?_drop] at h7
              obtain ⟨h9, h10⟩ := optList_at h8
              refine ⟨by rw [← q1, h9]; exact (hc _ ds h7).1, fun j x hj => ?_⟩
              obtain ⟨d, h11, h12⟩ := h10 j x hj
              obtain ⟨u, h1, h2, _⟩ := cell blk c ty b _ j ds d hb hc h7 h11
              obtain ⟨k1, k2⟩ := ih _ _ _ h12 h2
              exact ⟨k1, u, by rw [← q1, ← Nat.add_mul]; exact h1, k2⟩
            · cases h7
end
end Go.Proofs.Ytnccnmeecngopaa.Fw
