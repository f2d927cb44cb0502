/- The abstract evaluator, part S: what an operation minds of its surroundings. -/
import Derived.Test.YtnccnmeecngopaaFwR
set_option linter.unusedVariables false
set_option linter.unusedSimpArgs false
set_option linter.unnecessarySimpa false
namespace Go.Proofs.Ytnccnmeecngopaa.Fw
open Go Go.RowKit

theorem ev_same {e e2 : Env} : ∀ {x : Opd}, (∀ t ∈ x.tmps, e2.get t = e.get t) → x.ev e2 = x.ev e
  | .t n, h => h n (by simp [Opd.tmps])
  | .k _, _ => rfl
theorem evs_same {e e2 : Env} : ∀ {xs : List Opd}, (∀ t ∈ xs.flatMap Opd.tmps, e2.get t = e.get t) → Opd.evs e2 xs = Opd.evs e xs
  | [], _ => rfl
  | x :: r, h => by
    simp only [Opd.evs]
    rw [ev_same (x := x) fun t ht => h t (by simp [ht]), evs_same (xs := r) fun t ht => h t (by simp only [List.flatMap_cons, List.mem_append]; exact .inr ht)]
theorem optEv_same {e e2 : Env} : ∀ {x : Option Opd}, (∀ t ∈ optTmps x, e2.get t = e.get t) → optEv e2 x = optEv e x
  | none, _ => rfl
  | some x, h => by simp only [optEv]; rw [ev_same h]
theorem evParts_same {e e2 : Env} : ∀ {ps : List (Nat × Nat × Opd)}, (∀ t ∈ ps.flatMap (fun p => p.2.2.tmps), e2.get t = e.get t) → evParts e2 ps = evParts e ps
  | [], _ => rfl
  | (a, b, x) :: r, h => by
    simp only [evParts]
    rw [ev_same (x := x) fun t ht => h t (by simp [ht]), evParts_same (ps := r) fun t ht => h t (by simp only [List.flatMap_cons, List.mem_append]; exact .inr ht)]
theorem evPartsS_same {e e2 : Env} : ∀ {ps : List (Nat × Opd)}, (∀ t ∈ ps.flatMap (fun p => p.2.tmps), e2.get t = e.get t) → evPartsS e2 ps = evPartsS e ps
  | [], _ => rfl
  | (a, x) :: r, h => by
    simp only [evPartsS]
    rw [ev_same (x := x) fun t ht => h t (by simp [ht]), evPartsS_same (ps := r) fun t ht => h t (by simp only [List.flatMap_cons, List.mem_append]; exact .inr ht)]

theorem opSem_env {own : Site} {st : List Nat} {H : Heap} {e e2 : Env} : ∀ {m : MOp}, (∀ t ∈ m.uses, e2.get t = e.get t) → opSem own st m e2 H = opSem own st m e H
  | .mov x, h | .box _ _ x, h | .load _ _ x, h | .nilck x, h | .un _ x, h | .conv _ x, h | .faddr _ x, h | .field _ _ _ x, h | .ext x _, h => by
    simp only [opSem]; rw [ev_same (x := x) h]
  | .pick c a b, h => by
    simp only [MOp.uses, List.mem_append] at h
    simp only [opSem]
    rw [ev_same (x := c) fun t ht => h t (.inl (.inl ht)), ev_same (x := a) fun t ht => h t (.inl (.inr ht)), ev_same (x := b) fun t ht => h t (.inr ht)]
  | .alloc .., _ => rfl
  | .bad, _ => rfl
  | .build z ps, h => by simp only [opSem]; rw [evParts_same h]
  | .mkslice _ _ _ _ ps, h => by simp only [opSem]; rw [evPartsS_same h]
  | .store _ a x, h | .bin _ _ a x, h | .make _ _ _ _ a x, h | .iaddr _ _ a x, h | .index _ _ _ a x, h | .indexS a x, h | .append _ _ _ a x, h | .copy _ a x, h => by
    simp only [MOp.uses, List.mem_append] at h
    simp only [opSem]
    rw [ev_same (x := a) fun t ht => h t (.inl ht), ev_same (x := x) fun t ht => h t (.inr ht)]
  | .mkfn f a b, h => by
    simp only [MOp.uses, List.mem_append] at h
    simp only [opSem]
    rw [evs_same (xs := a) fun t ht => h t (.inl ht), evs_same (xs := b) fun t ht => h t (.inr ht)]
  | .slice z x l hh m, h => by
    simp only [MOp.uses, List.mem_append] at h
    simp only [opSem]
    rw [ev_same (x := x) fun t ht => h t (.inl (.inl (.inl ht))), optEv_same (x := l) fun t ht => h t (.inl (.inl (.inr ht))), optEv_same (x := hh) fun t ht => h t (.inl (.inr ht)), optEv_same (x := m) fun t ht => h t (.inr ht)]
  | .bi _ xs, h | .extern _ xs, h => by simp only [opSem]; rw [evs_same (xs := xs) h]
  | .call .., _ => rfl
  | .callv .., _ => rfl

theorem row_same {H H2 : Heap} {s : Site} (h : H2.get s = H.get s) (st : List Nat) : H2.row s st = H.row s st := by unfold Heap.row; rw [h]

theorem srcEls_same {H H2 : Heap} {x : AV} (h : ∀ s ∈ siteOf x, H2.get s = H.get s) : srcEls H2 x = srcEls H x := by
  cases x <;> first | rfl | skip
  case slc s st z off len full =>
    simp only [srcEls]
    rw [row_same (h s (by simp [siteOf]))]

/-- memory afterwards: what was written stands there, the rest as it was -/
def Lays (W : List Site) (H2 H' H2' : Heap) : Prop := ∀ s, H2'.get s = if s ∈ W then H'.get s else H2.get s

theorem Lays.nothing {H2 H' : Heap} : Lays [] H2 H' H2 := fun s => by simp
theorem Lays.set {H H2 : Heap} {W : List Site} {s : Site} {b : Blk} (hs : s ∈ W) (hW : ∀ x ∈ W, x ≠ s → H2.get x = H.get x) : Lays W H2 (H.set s b) (H2.set s b) := by
  intro x
  rw [Heap.get_set, Heap.get_set]
  by_cases h : s = x
  · subst h; simp [hs]
  · rw [if_neg h, if_neg h]
    by_cases hx : x ∈ W
    · rw [if_pos hx]; exact hW x hx (Ne.symm h)
    · rw [if_neg hx]

theorem Lays.same {W : List Site} {H2 H : Heap} (h : ∀ x ∈ W, H2.get x = H.get x) : Lays W H2 H H2 := fun x => by
  by_cases hx : x ∈ W
  · rw [if_pos hx]; exact h x hx
  · rw [if_neg hx]

theorem opSem_lays {P : Prog} {own : Site} {st : List Nat} {H H' H2 : Heap} {e : Env} {v : AV} {o : MO} {R : List Site} (h : opSem own st o.op e H = some (v, H')) (hR : footR P o e H = some R) (hs : ∀ s ∈ R, H2.get s = H.get s) :
    ∃ H2', opSem own st o.op e H2 = some (v, H2') ∧ Lays (footW P own o e H v) H2 H' H2' := by
  obtain ⟨dst, m, gd, pre⟩ := o
  simp only at h
  simp only [footR] at hR
  have one : ∀ (x : Site) (b : Blk), Lays [x] H2 (H.set x b) (H2.set x b) := fun x b => Lays.set (by simp) fun y hy hn => absurd (by simpa using hy) hn
  cases m
  case load agg n a =>
    simp only at hR; cases hR
    simp only [opSem] at h ⊢
    split at h
    · rename_i s st' i off ha
      rw [ha] at hs
      try simp only [ha]
      rw [row_same (hs s (by simp [siteOf]))]
      split at h
      · cases h
      · rename_i b hb
        try simp only [hb]
        split at h
        · cases h
        · rename_i cs hi
          try simp only [hi]
          rw [Option.map_eq_some_iff] at h
          obtain ⟨z, h1, h2⟩ := h
          cases h2
          exact ⟨H2, by simp [h1], Lays.nothing⟩
    · rename_i cs ha
      try simp only [ha]
      rw [Option.map_eq_some_iff] at h
      obtain ⟨z, h1, h2⟩ := h
      cases h2
      exact ⟨H2, by simp [h1], Lays.nothing⟩
    · cases h
  case store n a x =>
    simp only at hR; cases hR
    simp only [opSem] at h ⊢
    split at h
    · rename_i s st' i off ha
      rw [ha] at hs
      try simp only [ha]
      rw [row_same (hs s (by simp [siteOf]))]
      split at h
      · cases h
      · rename_i b hb
        try simp only [hb]
        split at h
        · cases h
        · rename_i cs hi
          try simp only [hi]
          split at h
          · rename_i hc
            rw [if_pos hc]
            cases h
            exact ⟨_, rfl, by simp only [footW, ha, siteOf]; exact one _ _⟩
          · cases h
    · cases h
  case append z bytes leaf a x =>
    simp only at hR; cases hR
    have hx : srcEls H2 (x.ev e) = srcEls H (x.ev e) := srcEls_same fun s h => hs s (by simp [h])
    simp only [opSem] at h ⊢
    rw [hx]
    split at h
    · cases h
    · rename_i new hnew
      try simp only [hnew]
      split at h
      · rename_i hc
        rw [if_pos hc]
        split at h
        · rename_i ha
          try simp only [ha]
          split at h
          · rename_i h0
            rw [if_pos h0]
            cases h
            exact ⟨H2, rfl, Lays.nothing⟩
          · rename_i h0
            rw [if_neg h0]
            split at h
            · rename_i h1
              rw [if_pos h1]
              cases h
              exact ⟨_, rfl, one _ _⟩
            · cases h
        · rename_i s' st' z' off len full ha
          rw [ha] at hs
          try simp only [ha]
          rw [row_same (hs s' (by simp [siteOf]))]
          split at h
          · rename_i h0
            rw [if_pos h0]
            cases h
            exact ⟨H2, rfl, Lays.same fun y hy => hs y (by simp only [footW, siteOf] at hy; simp [siteOf]; exact .inl (by simpa using hy))⟩
          · rename_i h0
            rw [if_neg h0]
            split at h
            · cases h
            · rename_i b hb
              try simp only [hb]
              split at h
              · rename_i h1
                rw [if_pos h1]
                split at h
                · rename_i h2
                  rw [if_pos h2]
                  cases h
                  exact ⟨_, rfl, one _ _⟩
                · rename_i h2
                  rw [if_neg h2]
                  split at h
                  · rename_i h3
                    rw [if_pos h3]
                    cases h
                    exact ⟨_, rfl, one _ _⟩
                  · cases h
              · cases h
        · cases h
      · cases h
  case copy z a x =>
    simp only at hR; cases hR
    have hx : srcEls H2 (x.ev e) = srcEls H (x.ev e) := srcEls_same fun s h => hs s (by simp [h])
    simp only [opSem] at h ⊢
    rw [hx]
    split at h
    · cases h
    · rename_i new hnew
      try simp only [hnew]
      split at h
      · rename_i s' st' z' off len full ha
        rw [ha] at hs
        try simp only [ha]
        rw [row_same (hs s' (by simp [siteOf]))]
        split at h
        · cases h
        · rename_i b hb
          try simp only [hb]
          split at h
          · rename_i h1
            rw [if_pos h1]
            cases h
            exact ⟨_, rfl, by simp only [footW, ha, siteOf]; exact one _ _⟩
          · cases h
      · cases h
  case alloc => simp only [opSem] at h ⊢; cases h; exact ⟨_, rfl, one _ _⟩
  case box =>
    simp only [opSem] at h ⊢
    split at h
    · rename_i hc; rw [if_pos hc]; cases h; exact ⟨_, rfl, one _ _⟩
    · cases h
  case mkslice =>
    simp only [opSem] at h ⊢
    split at h
    · cases h
    · rename_i els he
      try simp only [he]
      split at h
      · rename_i hc; rw [if_pos hc]; cases h; exact ⟨_, rfl, one _ _⟩
      · cases h
  case make =>
    simp only [opSem] at h ⊢
    split at h
    · rename_i h1 h2
      try simp only [h1, h2]
      split at h
      · rename_i hc; rw [if_pos hc]; cases h; exact ⟨_, rfl, one _ _⟩
      · cases h
    · cases h
  case call => simp only [opSem] at h; cases h
  case callv => simp only [opSem] at h; cases h
  case bad => simp only [opSem] at h; cases h
  case mov => simp only [opSem] at h ⊢; cases h; exact ⟨_, rfl, Lays.nothing⟩
  case mkfn => simp only [opSem] at h ⊢; cases h; exact ⟨_, rfl, Lays.nothing⟩
  all_goals
    simp only [opSem] at h ⊢
    (repeat' split at h)
    all_goals first
      | (cases h; done)
      | (rw [Option.map_eq_some_iff] at h; obtain ⟨z, h1, h2⟩ := h; cases h2; exact ⟨H2, by simp [*], Lays.nothing⟩)
      | (cases h; exact ⟨H2, by simp [*], Lays.nothing⟩)

/-! ### handing values over -/
theorem optList_same {α β : Type} {f g : α → Option β} : ∀ {l : List α}, (∀ x ∈ l, f x = g x) → optList f l = optList g l
  | [], _ => rfl
  | x :: r, h => by
    simp only [optList]
    rw [h x (by simp), optList_same (l := r) fun y hy => h y (by simp [hy])]

theorem freeze_same {H H2 : Heap} : ∀ (n : Nat) (x : AV), (∀ s ∈ freezeR H n x, H2.get s = H.get s) → freeze H2 n x = freeze H n x
  | 0, _, _ => rfl
  | n + 1, x, h => by
    have many : ∀ l : List AV, (∀ s ∈ l.flatMap (freezeR H n), H2.get s = H.get s) → optList (freeze H2 n) l = optList (freeze H n) l := fun l hl =>
      optList_same fun y hy => freeze_same n y fun s hs => hl s (List.mem_flatMap.2 ⟨y, hy, hs⟩)
    cases x <;> first | rfl | skip
    case ptr s st i off =>
      simp only [freezeR, List.mem_cons] at h
      have h0 := h s (.inl rfl)
      simp only [freeze]
      rw [row_same h0]
      split
      · rfl
      · rename_i b hb
        simp only [hb] at h
        split
        · rfl
        · rename_i cs hi
          simp only [hi] at h
          split
          · rfl
          · rename_i hl
            rw [if_neg hl] at h
            rw [many _ fun y hy => h y (.inr hy)]
    case slc s st z off len full =>
      simp only [freezeR, List.mem_cons] at h
      have h0 := h s (.inl rfl)
      simp only [freeze]
      rw [row_same h0]
      split
      · rfl
      · rename_i b hb
        simp only [hb] at h
        split
        · split
          · rfl
          · rename_i hl
            rw [if_neg hl] at h
            rw [optList_same (f := optList (freeze H2 n)) (g := optList (freeze H n)) fun cs hcs => many cs fun y hy => h y (.inr (List.mem_flatMap.2 ⟨cs, hcs, hy⟩))]
        · rfl
    case agg cs => simp only [freezeR] at h; simp only [freeze]; rw [many cs h]
    case tup cs => simp only [freezeR] at h; simp only [freeze]; rw [many cs h]
    case fn f a b =>
      simp only [freezeR, List.mem_append] at h
      simp only [freeze]
      rw [many a fun y hy => h y (.inl hy), many b fun y hy => h y (.inr hy)]

theorem freezes_same {H H2 : Heap} {l : List AV} (h : ∀ s ∈ l.flatMap (freezeR H 8), H2.get s = H.get s) : optList (freeze H2 8) l = optList (freeze H 8) l :=
  optList_same fun y hy => freeze_same 8 y fun s hs => h s (List.mem_flatMap.2 ⟨y, hy, hs⟩)

def Laid (W : List Site) (f : Heap → Heap) : Prop := ∀ G G0, Lays W G (f G0) (f G)
theorem Laid.id : Laid [] id := fun G G0 => Lays.nothing
theorem Laid.one (s : Site) (b : Blk) : Laid [s] (fun G => G.set s b) := fun G G0 => Lays.set (by simp) fun y hy hn => absurd (by simpa using hy) hn
theorem Laid.comp {V W : List Site} {f g : Heap → Heap} (hf : Laid V f) (hg : Laid W g) : Laid (V ++ W) (fun G => g (f G)) := by
  intro G G0 s
  show (g (f G)).get s = _
  have a := hg (f G) (f G0) s
  have b := hg (f G0) (f G0) s
  have c := hf G G0 s
  by_cases hs : s ∈ W
  · rw [if_pos (by simp [hs])]
    rw [if_pos hs] at a
    exact a
  · rw [if_neg hs] at a b
    rw [a, c]
    by_cases hv : s ∈ V
    · rw [if_pos hv, if_pos (by simp [hv])]
      exact b.symm
    · rw [if_neg hv, if_neg (by simp [hs, hv])]

theorem dry_refs (x : AV) (h : x.dry = true) : x.refs = [] := by cases x <;> simp_all [AV.dry, AV.refs]
theorem dryL_refs : ∀ l : List AV, dryL l = true → AV.refsL l = []
  | [], _ => by simp only [AV.refsL]
  | a :: r, h => by
    simp only [dryL, Bool.and_eq_true] at h
    simp only [AV.refsL, dry_refs a h.1, dryL_refs r h.2, List.append_nil]
end Go.Proofs.Ytnccnmeecngopaa.Fw
