/- The abstract evaluator, part N: what a call hands back. -/
import Derived.Test.YtnccnmeecngopaaFwM
set_option linter.unusedVariables false
set_option linter.unusedSimpArgs false
set_option linter.unnecessarySimpa false
namespace Go.Proofs.Ytnccnmeecngopaa.Fw
open Go Go.RowKit

theorem dryEls_at : ∀ {els : List (List AV)}, dryEls els = true → ∀ (i : Nat) (cs : List AV), els[i]? = some cs → dryL cs = true
  | [], _, i, cs, h => by simp at h
  | c :: r, hc, 0, cs, h => by
    simp only [dryEls, Bool.and_eq_true] at hc
    simp at h; subst h; exact hc.1
  | c :: r, hc, i + 1, cs, h => by
    simp only [dryEls, Bool.and_eq_true] at hc
    simp at h
    exact dryEls_at hc.2 i cs h

/-- What holds while results are put in their places: 'ρc' is the callee's state, 'ρt' the caller's so far. -/
structure Put (all : Bool) (d : Nat) (B : Nat) (ρc : Map) (oldc : List Nat → Prop) (w : World) (st : List Nat) (j : Nat) (R : List Site) (ρt : Map) (oldt : List Nat → Prop) (Ht : Heap) : Prop where
  heap : HRel B ρt oldt w Ht
  conv : ∀ x u, (all = true → x.dry = true) → RelV ρc oldc w x u → RelV ρt oldt w x u
  stamps : ∀ i, j ≤ i → ¬ oldt ((i + 1) :: st)
  free : ∀ s ∈ R, s.d = d → ∀ b z st, ρc s = some (b, z, st) → B ≤ b ∧ ρt.av b ∧ ∀ s' z' st', ρt s' ≠ some (b, z', st')

section
variable {all : Bool} {d : Nat} {B Bc : Nat} {ρc ρt : Map} {oldc oldt : List Nat → Prop} {w : World} {R : List Site} {Hc Ht : Heap} {D T j : Nat} {st : List Nat}

/-- one block of the callee's becomes one of the caller's. -/
theorem Put.claim (h : Put all d B ρc oldc w st j R ρt oldt Ht) (hc : HRel Bc ρc oldc w Hc) (S : Site) {s : Site} (hs : s ∈ R) (hd : s.d = d) {blk blk' : Blk} {b : Nat} {st0 : List Nat} (hρ : ρc s = some (b, blk.z, st0)) {c : Array Value} {ty : TypeId} (hb : w.heap[b]? = some (.cells c ty (0, 0)))
    (hcr : CellsRel (RelV ρc oldc w) blk c) (hz : blk'.z = blk.z) (hels : ∀ (i : Nat) (cs : List AV), blk'.els[i]? = some cs → blk.els[i]? = some cs) (hdry : dryEls blk'.els = true) (hst' : blk'.st = (j + 1) :: st) :
    Put all d B ρc oldc w st (j + 1) (R.filter (· ≠ s)) (ρt.upd S (b, blk'.z, blk'.st)) (fun q => oldt q ∨ q = blk'.st) (Ht.set S blk') ∧
      Keep ρt (ρt.upd S (b, blk'.z, blk'.st)) oldt (fun q => oldt q ∨ q = blk'.st) w w := by
  obtain ⟨hBb, hav, hno⟩ := h.free s hs hd b _ _ hρ
  have hst : ¬ oldt blk'.st := by rw [hst']; exact h.stamps j (Nat.le_refl _)
  have k : Keep ρt (ρt.upd S (b, blk'.z, blk'.st)) oldt (fun q => oldt q ∨ q = blk'.st) w w := by
    refine ⟨fun b' hlt hn => ⟨rfl, ?_⟩, fun s' b' z' st' e ho => ?_, fun _ h => .inl h, fun _ _ _ _ _ _ => rfl⟩
    · rintro (h1 | ⟨s', z', st', e⟩)
      · exact hn (.inl h1)
      · simp only [Map.upd] at e
        split at e
        · cases e; exact hn (.inl hav)
        · exact hn (.inr ⟨s', z', st', e⟩)
    · simp only [Map.upd] at e
      split at e
      · cases e; exact absurd ho hst
      · exact e
  refine ⟨⟨?_, fun x u hx hr => RelV.mono k x u (h.conv x u hx hr), fun i hi => ?_, fun s' hs' hd' b' z' st' e => ?_⟩, k⟩
  · refine ⟨fun s' blk1 hg => ?_, fun s' b' z' st' e => ?_, fun s1 s2 b' z z' st st' e1 e2 => ?_⟩
    · rw [Heap.get_set] at hg
      by_cases hq : S = s'
      · subst hq
        simp only [if_true] at hg
        cases hg
        refine ⟨b, by simp [Map.upd], hBb, .inr rfl, c, ty, hb, fun i cs hi => ?_⟩
        obtain ⟨h1, h2⟩ := hcr i cs (hels i cs hi)
        refine ⟨by rw [hz]; exact h1, fun j x hj => ?_⟩
        obtain ⟨_, u, h3, h4⟩ := h2 j x hj
        have hx := clL_at (dryEls_at hdry i cs hi) j x hj
        exact ⟨fun _ => hx, u, by rw [hz]; exact h3, dry_rel hx h4⟩
      · simp only [hq, if_false] at hg
        obtain ⟨b', e, h1, h2, c', ty', h3, h4⟩ := h.heap.there s' blk1 hg
        exact ⟨b', by simp [Map.upd, hq, e], h1, .inl h2, c', ty', h3, h4.mono fun v u hv => RelV.mono k v u hv⟩
    · simp only [Map.upd] at e
      split at e
      · cases e; exact ⟨hBb, (Array.getElem?_eq_some_iff.1 hb).1⟩
      · exact h.heap.inb _ _ _ _ e
    · simp only [Map.upd] at e1 e2
      split at e1 <;> split at e2
      · rename_i a1 a2; exact a1.symm.trans a2
      · cases e1; exact absurd e2 (hno _ _ _)
      · cases e2; exact absurd e1 (hno _ _ _)
      · exact h.heap.inj _ _ _ _ _ _ _ e1 e2
  · rintro (h1 | h1)
    · exact h.stamps i (by omega) h1
    · rw [hst'] at h1; injection h1 with h1 _; omega
  · have hmem := List.mem_filter.1 hs'
    obtain ⟨h1, h2, h3⟩ := h.free s' hmem.1 hd' b' z' st' e
    refine ⟨h1, h2, fun s'' z'' st'' e' => ?_⟩
    simp only [Map.upd] at e'
    split at e'
    · cases e'
      have := hc.inj _ _ _ _ _ _ _ e hρ
      simp [this] at hmem
    · exact h3 _ _ _ e'

theorem Put.weaken {R' : List Site} (h : Put all d B ρc oldc w st j R ρt oldt Ht) (hR : ∀ s ∈ R', s ∈ R) : Put all d B ρc oldc w st j R' ρt oldt Ht :=
  ⟨h.heap, h.conv, h.stamps, fun s hs => h.free s (hR s hs)⟩

/-- what comes of putting something in its place -/
def Puts (all : Bool) (d D B : Nat) (ρc : Map) (oldc : List Nat → Prop) (w : World) (st : List Nat) (j' : Nat) (R' : List Site) (ρt : Map) (oldt : List Nat → Prop) (Ht H' : Heap) (G : Map → (List Nat → Prop) → Prop) : Prop :=
  ∃ ρ' old', Put all d B ρc oldc w st j' R' ρ' old' H' ∧ G ρ' old' ∧ Keep ρt ρ' oldt old' w w ∧ (∀ q, old' q → oldt q ∨ ∃ τ, q = τ ++ st) ∧ ρ'.av = ρt.av ∧ ∀ s : Site, s.d ≠ D → ρ' s = ρt s ∧ H'.get s = Ht.get s
theorem Keep.refl (ρ : Map) (old : List Nat → Prop) (w : World) : Keep ρ ρ old old w w := ⟨fun _ _ h => ⟨rfl, h⟩, fun _ _ _ _ e _ => e, fun _ h => h, fun _ _ _ _ _ _ => rfl⟩
theorem Keep.trans {ρ1 ρ2 ρ3 : Map} {o1 o2 o3 : List Nat → Prop} {w1 w2 w3 : World} (h : Keep ρ1 ρ2 o1 o2 w1 w2) (k : Keep ρ2 ρ3 o2 o3 w2 w3) (hsz : w1.heap.size ≤ w2.heap.size) : Keep ρ1 ρ3 o1 o3 w1 w3 := by
  refine ⟨fun b hb hn => ?_, fun s b z st e ho => ?_, fun q hq => k.olds q (h.olds q hq), fun s b z st e ho => ?_⟩
  · obtain ⟨h1, h2⟩ := h.stable b hb hn
    obtain ⟨h3, h4⟩ := k.stable b (by omega) h2
    exact ⟨h3.trans h1, h4⟩
  · exact h.refs _ _ _ _ (k.refs _ _ _ _ e (h.olds _ ho)) ho
  · rw [k.sizes _ _ _ _ e (h.olds _ ho), h.sizes _ _ _ _ (k.refs _ _ _ _ e (h.olds _ ho)) ho]

theorem put_cell (hc : HRel Bc ρc oldc w Hc) {x x' y : AV} {u : Value} {R' : List Site} {j' : Nat} {H' : Heap} (h : Put all d B ρc oldc w st j (x.refs ++ R') ρt oldt Ht) (hdis : ∀ s ∈ x.refs, s ∉ R')
    (hp : packC all d Hc x = some x') (hr : RelV ρc oldc w x u) (ht : thawC D T st j Ht x' = (y, j', H')) :
    Puts all d D B ρc oldc w st j' R' ρt oldt Ht H' fun ρ' old' => RelV ρ' old' w y u := by
  have stay : x' = x → (all = true → x.dry = true) → (∀ z els l, x ≠ .own z els l) → (∀ cs l, x ≠ .ownp cs l) → Puts all d D B ρc oldc w st j' R' ρt oldt Ht H' fun ρ' old' => RelV ρ' old' w y u := by
    rintro rfl hdry h1 h2
    have e : (y, j', H') = (x', j, Ht) := by
      rw [← ht]
      cases x' <;> first | rfl | exact absurd rfl (h1 _ _ _) | exact absurd rfl (h2 _ _)
    cases e
    exact ⟨ρt, oldt, h.weaken (fun s hs => List.mem_append_right _ hs), h.conv _ _ hdry hr, Keep.refl _ _ _, fun q hq => .inl hq, rfl, fun s _ => ⟨rfl, rfl⟩⟩
  unfold packC at hp
  split at hp <;> first | (cases hp; done) | skip
  · rename_i s st0 z off len full
    split at hp
    · rename_i hd
      split at hp
      · cases hp
      · rename_i blk hrow
        split at hp <;> first | (cases hp; done) | skip
        rename_i hcond
        obtain ⟨c1, c2, c3⟩ := hcond
        cases hp
        subst c1
        simp only [thawC] at ht
        cases ht
        obtain ⟨b, hρ, hBb, hs, hg, c, ty, hb, hcr⟩ := hc.at hrow
        obtain ⟨bal, bdry⟩ := hcr.flat_rel
        simp only [RelV] at hr
        obtain ⟨ho, p, cap, hu, hlc, hfull, hq⟩ := hr
        obtain ⟨q1, q2, q3⟩ := hq _ _ hρ
        have hdry : dryEls (blk.els.take len) = true := by
          cases hl : blk.leaf with
          | true =>
            have := bdry hl
            have tk : ∀ (l : List (List AV)) (n : Nat), dryEls l = true → dryEls (l.take n) = true := by
              intro l
              induction l with
              | nil => intro n _; simp [dryEls]
              | cons c r ih =>
                intro n hh
                simp only [dryEls, Bool.and_eq_true] at hh
                cases n with
                | zero => simp [dryEls]
                | succ n => simp only [List.take_succ_cons, dryEls, Bool.and_eq_true]; exact ⟨hh.1, ih n hh.2⟩
            exact tk _ _ this
          | false => simpa [hl] using c3
        have hz : z = blk.z := q1.symm
        obtain ⟨k1, k2⟩ := h.claim hc ⟨D, T, j⟩ (s := s) (by simp [AV.refs]) hd (blk := blk) (blk' := ⟨(j + 1) :: st, blk.els.take len, z, blk.leaf⟩) hρ hb hcr hz (fun i cs hi => by
          simp only [List.getElem?_take] at hi
          split at hi
          · exact hi
          · cases hi) hdry rfl
        refine ⟨_, _, k1.weaken fun s' hs' => ?_, ?_, k2, ?_, rfl, fun s1 hs1 => ⟨by simp only [Map.upd]; rw [if_neg (by rintro rfl; exact hs1 rfl)], by rw [Heap.get_set, if_neg (by rintro rfl; exact hs1 rfl)]⟩⟩
        · refine List.mem_filter.2 ⟨List.mem_append_right _ hs', ?_⟩
          have := hdis s (by simp [AV.refs])
          simp only [decide_not, Bool.not_eq_true', decide_eq_false_iff_not]
          rintro rfl; exact this hs'
        · have hnl : (blk.els.take len).length = len := by simp; omega
          simp only [RelV, hnl]
          refine ⟨.inr trivial, p, cap, hu, hlc, fun hf => by simp at hf, fun b' z' e => ?_⟩
          simp only [Map.upd, if_true, Option.some.injEq, Prod.mk.injEq] at e
          obtain ⟨rfl, rfl, _⟩ := e
          exact ⟨rfl, q2, q3⟩
        · rintro q (hq | hq)
          · exact .inl hq
          · exact .inr ⟨[j + 1], by rw [hq]; rfl⟩
    · split at hp
      · cases hp
      · rename_i hall
        cases hp
        exact stay rfl (fun ha => absurd ha hall) (by simp) (by simp)
  · rename_i s st0 i off
    split at hp
    · rename_i hd
      split at hp
      · cases hp
      · rename_i blk hrow
        split at hp <;> first | (cases hp; done) | skip
        rename_i cs hcs
        split at hp <;> first | (cases hp; done) | skip
        rename_i hcond
        obtain ⟨c1, c2, c3⟩ := hcond
        cases hp
        subst c1; subst c2
        simp only [thawC] at ht
        cases ht
        obtain ⟨b, hρ, hBb, hs, hg, c, ty, hb, hcr⟩ := hc.at hrow
        obtain ⟨bal, bdry⟩ := hcr.flat_rel
        simp only [RelV] at hr
        obtain ⟨ho, p, hu, hq⟩ := hr
        have q1 := hq _ _ hρ
        have hdry : dryEls [cs] = true := by
          cases hl : blk.leaf with
          | true => rw [← hcs]; exact bdry hl
          | false => simpa [hl, dryEls] using c3
        have hz : cs.length = blk.z := bal cs (by rw [hcs]; simp)
        obtain ⟨k1, k2⟩ := h.claim hc ⟨D, T, j⟩ (s := s) (by simp [AV.refs]) hd (blk := blk) (blk' := ⟨(j + 1) :: st, [cs], cs.length, blk.leaf⟩) hρ hb hcr hz (fun i ds hi => by rw [hcs]; exact hi) hdry rfl
        refine ⟨_, _, k1.weaken fun s' hs' => ?_, ?_, k2, ?_, rfl, fun s1 hs1 => ⟨by simp only [Map.upd]; rw [if_neg (by rintro rfl; exact hs1 rfl)], by rw [Heap.get_set, if_neg (by rintro rfl; exact hs1 rfl)]⟩⟩
        · refine List.mem_filter.2 ⟨List.mem_append_right _ hs', ?_⟩
          have := hdis s (by simp [AV.refs])
          simp only [decide_not, Bool.not_eq_true', decide_eq_false_iff_not]
          rintro rfl; exact this hs'
        · simp only [RelV]
          refine ⟨.inr trivial, p, hu, fun b' z' e => ?_⟩
          simp only [Map.upd, if_true, Option.some.injEq, Prod.mk.injEq] at e
          obtain ⟨rfl, rfl, _⟩ := e
          rw [q1]; simp
        · rintro q (hq | hq)
          · exact .inl hq
          · exact .inr ⟨[j + 1], by rw [hq]; rfl⟩
    · split at hp
      · cases hp
      · rename_i hall
        cases hp
        exact stay rfl (fun ha => absurd ha hall) (by simp) (by simp)
  · rename_i n1 n2 n3 n4 n5 n6 n7
    split at hp
    · cases hp
    · rename_i hall
      cases hp
      refine stay rfl (fun ha => ?_) (fun z els l e => n6 _ _ _ e) (fun cs l e => n7 _ _ e)
      simpa [ha] using hall

theorem puts_bind {R1 R2 : List Site} {j1 j2 : Nat} {H1 H2 : Heap} {G1 G2 : Map → (List Nat → Prop) → Prop} (h : Puts all d D B ρc oldc w st j1 R1 ρt oldt Ht H1 G1)
    (k : ∀ ρ1 old1, Put all d B ρc oldc w st j1 R1 ρ1 old1 H1 → G1 ρ1 old1 → Puts all d D B ρc oldc w st j2 R2 ρ1 old1 H1 H2 fun ρ2 old2 => (Keep ρ1 ρ2 old1 old2 w w → G2 ρ2 old2)) :
    Puts all d D B ρc oldc w st j2 R2 ρt oldt Ht H2 G2 := by
  obtain ⟨ρ1, old1, h1, h2, h3, h4, h5, h6⟩ := h
  obtain ⟨ρ2, old2, k1, k2, k3, k4, k5, k6⟩ := k ρ1 old1 h1 h2
  refine ⟨ρ2, old2, k1, k2 k3, h3.trans k3 (Nat.le_refl _), fun q hq => ?_, k5.trans h5, fun s hs => ⟨(k6 s hs).1.trans (h6 s hs).1, (k6 s hs).2.trans (h6 s hs).2⟩⟩
  rcases k4 q hq with h | h
  · exact h4 q h
  · exact .inr h

/-- a list of things, each put in its place -/
theorem put_list (f : AV → Option AV) (g : Nat → Heap → AV → AV × Nat × Heap)
    (hfg : ∀ {x x' y : AV} {u : Value} {R' : List Site} {j j' : Nat} {Ht H' : Heap} {ρt : Map} {oldt : List Nat → Prop}, Put all d B ρc oldc w st j (x.refs ++ R') ρt oldt Ht → distinct (x.refs ++ R') = true → f x = some x' → RelV ρc oldc w x u → g j Ht x' = (y, j', H') →
      Puts all d D B ρc oldc w st j' R' ρt oldt Ht H' fun ρ' old' => RelV ρ' old' w y u) :
    ∀ (xs xs' ys : List AV) (us : List Value) (R' : List Site) (j j' : Nat) (Ht H' : Heap) (ρt : Map) (oldt : List Nat → Prop), Put all d B ρc oldc w st j (AV.refsL xs ++ R') ρt oldt Ht → distinct (AV.refsL xs ++ R') = true → optList f xs = some xs' → RelL ρc oldc w xs us → thawL g j Ht xs' = (ys, j', H') →
      Puts all d D B ρc oldc w st j' R' ρt oldt Ht H' fun ρ' old' => RelL ρ' old' w ys us
  | [], xs', ys, us, R', j, j', Ht, H', ρt, oldt, h, hd, hp, hr, ht => by
    simp only [optList] at hp; cases hp
    simp only [thawL] at ht; cases ht
    cases us with
    | nil => exact ⟨ρt, oldt, h, by simp only [RelL], Keep.refl _ _ _, fun q hq => .inl hq, rfl, fun s _ => ⟨rfl, rfl⟩⟩
    | cons _ _ => simp only [RelL] at hr
  | x :: xs, xs', ys, us, R', j, j', Ht, H', ρt, oldt, h, hd, hp, hr, ht => by
    obtain ⟨x', s, h1, h2, rfl⟩ := optList_cons hp
    cases us with
    | nil => simp only [RelL] at hr
    | cons u us =>
      simp only [RelL] at hr
      simp only [AV.refsL, List.append_assoc] at h hd
      simp only [thawL] at ht
      cases hg : g j Ht x' with
      | mk y r =>
        obtain ⟨j1, H1⟩ := r
        rw [hg] at ht
        simp only at ht
        cases hl : thawL g j1 H1 s with
        | mk l r =>
          obtain ⟨j2, H2⟩ := r
          rw [hl] at ht
          simp only at ht
          cases ht
          have hd2 : distinct (AV.refsL xs ++ R') = true := by
            have : ∀ (a b : List Site), distinct (a ++ b) = true → distinct b = true := by
              intro a
              induction a with
              | nil => intro b h; simpa using h
              | cons c a ih => intro b h; simp only [List.cons_append, distinct, Bool.and_eq_true] at h; exact ih b h.2
            exact this _ _ hd
          refine puts_bind (hfg h hd h1 hr.1 hg) fun ρ1 old1 k1 k2 => ?_
          obtain ⟨ρ2, old2, m1, m2, m3, m4, m5, m6⟩ := put_list f g hfg xs s l us R' j1 j' H1 H' ρ1 old1 k1 hd2 h2 hr.2 hl
          exact ⟨ρ2, old2, m1, fun k => by simp only [RelL]; exact ⟨RelV.mono k _ _ k2, m2⟩, m3, m4, m5, m6⟩

theorem dis_not : ∀ {a b : List Site}, distinct (a ++ b) = true → ∀ s ∈ a, s ∉ b
  | [], b, _, s, hs => by simp at hs
  | c :: a, b, h, s, hs => by
    simp only [List.cons_append, distinct, Bool.and_eq_true, decide_eq_true_eq] at h
    rcases List.mem_cons.1 hs with rfl | hs
    · exact fun hb => h.1 (List.mem_append_right _ hb)
    · exact dis_not h.2 s hs

theorem packC_ne {H : Heap} {x x' : AV} (h : packC all d H x = some x') : (∀ cs, x' ≠ .agg cs) ∧ (∀ cs, x' ≠ .tup cs) := by
  unfold packC at h
  split at h <;> first | (cases h; done) | skip
  · (repeat' split at h) <;> first | (cases h; done) | (cases h; exact ⟨by simp, by simp⟩)
  · (repeat' split at h) <;> first | (cases h; done) | (cases h; exact ⟨by simp, by simp⟩)
  · rename_i n3 n4 n5 n6 n7
    split at h
    · cases h
    · cases h; exact ⟨fun cs e => n3 cs e, fun cs e => n4 cs e⟩
theorem put_agg (hc : HRel Bc ρc oldc w Hc) {x x' y : AV} {u : Value} {R' : List Site} {j j' : Nat} {Ht H' : Heap} {ρt : Map} {oldt : List Nat → Prop} (h : Put all d B ρc oldc w st j (x.refs ++ R') ρt oldt Ht) (hd : distinct (x.refs ++ R') = true)
    (hp : packA all d Hc x = some x') (hr : RelV ρc oldc w x u) (ht : thawA D T st j Ht x' = (y, j', H')) :
    Puts all d D B ρc oldc w st j' R' ρt oldt Ht H' fun ρ' old' => RelV ρ' old' w y u := by
  have one : packC all d Hc x = some x' → (∀ cs, x' ≠ .agg cs) → Puts all d D B ρc oldc w st j' R' ρt oldt Ht H' fun ρ' old' => RelV ρ' old' w y u := by
    intro h1 h2
    refine put_cell (D := D) (T := T) hc h (dis_not hd) h1 hr ?_
    rw [← ht]
    cases x' <;> first | rfl | exact absurd rfl (h2 _)
  cases x with
  | agg cs =>
    simp only [packA] at hp
    cases hq : optList (packC all d Hc) cs with
    | none => simp [hq] at hp
    | some l =>
      simp [hq] at hp; subst hp
      simp only [RelV] at hr
      obtain ⟨us, rfl, hrl⟩ := hr
      simp only [thawA] at ht
      cases hl : thawL (thawC D T st) j Ht l with
      | mk ys r =>
        obtain ⟨j1, H1⟩ := r
        rw [hl] at ht
        simp only at ht
        cases ht
        simp only [AV.refs] at h hd
        obtain ⟨ρ2, old2, m1, m2, m3, m4, m5, m6⟩ := put_list (packC all d Hc) (thawC D T st) (fun h hd hp hr ht => put_cell hc h (dis_not hd) hp hr ht) cs l ys us.toList R' j j' Ht H' ρt oldt h hd hq hrl hl
        exact ⟨ρ2, old2, m1, by simp only [RelV]; exact ⟨us, rfl, m2⟩, m3, m4, m5, m6⟩
  | _ =>
    simp only [packA] at hp
    exact one hp (packC_ne hp).1

theorem put_tup (hc : HRel Bc ρc oldc w Hc) {x x' y : AV} {u : Value} {Ht H' : Heap} {ρt : Map} {oldt : List Nat → Prop} (h : Put all d B ρc oldc w st 0 x.refs ρt oldt Ht) (hd : distinct x.refs = true)
    (hp : packT all d Hc x = some x') (hr : RelV ρc oldc w x u) (ht : thawT D T st Ht x' = (y, H')) :
    ∃ j', Puts all d D B ρc oldc w st j' [] ρt oldt Ht H' fun ρ' old' => RelV ρ' old' w y u := by
  have h0 : Put all d B ρc oldc w st 0 (x.refs ++ []) ρt oldt Ht := by simpa using h
  have hd0 : distinct (x.refs ++ []) = true := by simpa using hd
  have one : packA all d Hc x = some x' → (∀ cs, x' ≠ .tup cs) → ∃ j', Puts all d D B ρc oldc w st j' [] ρt oldt Ht H' fun ρ' old' => RelV ρ' old' w y u := by
    intro h1 h2
    cases hg : thawA D T st 0 Ht x' with
    | mk z r =>
      obtain ⟨j1, H1⟩ := r
      have e : (y, H') = (z, H1) := by
        rw [← ht]
        cases x' <;> first | (simp only [thawT, hg]; done) | exact absurd rfl (h2 _)
      cases e
      exact ⟨j1, put_agg hc h0 hd0 h1 hr hg⟩
  cases x with
  | tup cs =>
    simp only [packT] at hp
    cases hq : optList (packA all d Hc) cs with
    | none => simp [hq] at hp
    | some l =>
      simp [hq] at hp; subst hp
      simp only [RelV] at hr
      obtain ⟨us, rfl, hrl⟩ := hr
      simp only [thawT] at ht
      cases hl : thawL (thawA D T st) 0 Ht l with
      | mk ys r =>
        obtain ⟨j1, H1⟩ := r
        rw [hl] at ht
        simp only at ht
        cases ht
        simp only [AV.refs] at h0 hd0
        obtain ⟨ρ2, old2, m1, m2, m3, m4, m5, m6⟩ := put_list (packA all d Hc) (thawA D T st) (fun h hd hp hr ht => put_agg hc h hd hp hr ht) cs l ys us.toList [] 0 j1 Ht H' ρt oldt h0 hd0 hq hrl hl
        exact ⟨j1, ρ2, old2, m1, by simp only [RelV]; exact ⟨us, rfl, m2⟩, m3, m4, m5, m6⟩
  | agg cs =>
    simp only [packT] at hp
    refine one hp ?_
    intro cs' e
    subst e
    simp only [packA] at hp
    cases hq : optList (packC all d Hc) cs <;> simp [hq] at hp
  | _ =>
    simp only [packT] at hp
    have hp' := hp
    simp only [packA] at hp'
    exact one hp (packC_ne hp').2
end
end Go.Proofs.Ytnccnmeecngopaa.Fw
