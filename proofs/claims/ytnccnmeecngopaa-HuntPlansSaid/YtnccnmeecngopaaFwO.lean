/- The abstract evaluator, part O: calls. -/
import Derived.Test.YtnccnmeecngopaaFwN
set_option linter.unusedVariables false
set_option linter.unusedSimpArgs false
set_option linter.unnecessarySimpa false
namespace Go.Proofs.Ytnccnmeecngopaa.Fw
open Go Go.RowKit

def FnIs (P : Program) (f : FuncId) : Prop := ∃ fn, P.funcs[f]? = some fn ∧ fn.name ≠ "runtime.NumGoroutine" ∧ fn.body.isSome = true

/-- what a call leaves -/
def CallPost (D B : Nat) (H : Heap) (ρ : Map) (old : List Nat → Prop) (w : World) (r : AV) (H' : Heap) (S : List Nat → Prop) (e : Ending) (w' : World) : Prop :=
  ∃ u ρ' old', e = .returned u ∧ Keep ρ ρ' old old' w w' ∧ RelV ρ' old' w' r u ∧ HRel B ρ' old' w' H' ∧ Below B w w' ∧ (∀ q, old' q → old q ∨ S q) ∧ ρ'.av = ρ.av ∧ Fr D H ρ w H' ρ' w'

/-- nothing lies deeper -/
def Low (d : Nat) (H : Heap) : Prop := ∀ s b, H.get s = some b → s.d ≤ d
theorem Low.nil (d : Nat) : Low d [] := fun s b h => by simp [Heap.get] at h
theorem Low.set {d : Nat} {H : Heap} (h : Low d H) {s : Site} (hs : s.d ≤ d) (b : Blk) : Low d (H.set s b) := fun x c hx => by
  rw [Heap.get_set] at hx
  split at hx
  · rename_i e; subst e; exact hs
  · exact h x c hx
theorem Low.ext {d : Nat} {H G : Heap} (h : Low d H) (e : ∀ x, G.get x = H.get x) : Low d G := fun s b hb => h s b (by rw [← e]; exact hb)

theorem get_consH (H : Heap) (s : Site) (G : Heap) (x : Site) (hG : ∀ b, G.get x = some b → H.get x = some b) : (consH H s G).get x = if s = x then H.get x else G.get x := by
  unfold consH
  by_cases hx : s = x
  · subst hx
    rw [if_pos rfl]
    cases h : H.get s with
    | none =>
      simp only
      cases hg : G.get s with
      | none => rfl
      | some b => rw [hG b hg] at h; cases h
    | some b =>
      simp only
      split
      · rename_i hi
        obtain ⟨c, hc⟩ := Option.isSome_iff_exists.1 hi
        rw [hc, ← hG c hc, h]
      · simp [Heap.get]
  · rw [if_neg hx]
    split
    · split
      · rfl
      · simp [Heap.get, hx]
    · rfl
theorem get_cutH (H : Heap) (x : Site) : ∀ l : List Site, (cutH H l).get x = if x ∈ l then H.get x else none
  | [] => by simp [cutH, Heap.get]
  | s :: r => by
    have ih := get_cutH H x r
    simp only [cutH]
    rw [get_consH H s _ x (fun b hb => by rw [ih] at hb; split at hb; exact hb; cases hb), ih]
    by_cases hx : s = x
    · subst hx; simp
    · by_cases hr : x ∈ r
      · simp [hr, hx]
      · rw [if_neg hx, if_neg hr, if_neg]
        simp [hr, Ne.symm hx]
theorem consH_same {H H2 : Heap} {s : Site} (h : H2.get s = H.get s) (G : Heap) : consH H2 s G = consH H s G := by unfold consH; rw [h]
theorem cutH_same {H H2 : Heap} : ∀ {l : List Site}, (∀ s ∈ l, H2.get s = H.get s) → cutH H2 l = cutH H l
  | [], _ => rfl
  | s :: r, h => by
    simp only [cutH]
    rw [cutH_same (l := r) fun x hx => h x (by simp [hx]), consH_same (h s (by simp))]
theorem refsOf_same {H H2 : Heap} : ∀ {l : List Site}, (∀ s ∈ l, H2.get s = H.get s) → refsOf H2 l = refsOf H l
  | [], _ => rfl
  | s :: r, h => by simp only [refsOf]; rw [h s (by simp), refsOf_same (l := r) fun x hx => h x (by simp [hx])]
theorem mem_reach {H : Heap} : ∀ (n : Nat) {l : List Site} {s : Site}, s ∈ l → s ∈ reach H n l
  | 0, l, s, h => h
  | n + 1, l, s, h => by simp only [reach]; exact List.mem_append_left _ h
theorem reach_same {H H2 : Heap} : ∀ (n : Nat) {l : List Site}, (∀ s ∈ reach H n l, H2.get s = H.get s) → reach H2 n l = reach H n l
  | 0, l, _ => rfl
  | n + 1, l, h => by
    simp only [reach] at h ⊢
    rw [refsOf_same (l := l) fun s hs => h s (List.mem_append_left _ hs), reach_same n fun s hs => h s (List.mem_append_right _ hs)]
theorem handed_same {H H2 : Heap} {args : List AV} (h : ∀ s ∈ handed H args, H2.get s = H.get s) : handed H2 args = handed H args := reach_same 4 h

/-- the places of 'G' -/
def Heap.at (G : Heap) : List Site := G.map (·.1)
theorem mem_at {G : Heap} {s : Site} : s ∈ G.at ↔ ∃ b, G.get s = some b := by
  induction G with
  | nil => simp [Heap.at, Heap.get]
  | cons x r ih =>
    obtain ⟨k, b⟩ := x
    simp only [Heap.at, List.map_cons, List.mem_cons, Heap.get]
    by_cases hk : k = s
    · subst hk; simp
    · simp only [hk, if_false, Ne.symm hk, false_or]; exact ih
theorem at_cons {x s : Site} {b : Blk} {r : Heap} : x ∈ Heap.at ((s, b) :: r) ↔ x = s ∨ x ∈ Heap.at r := by simp [Heap.at]
theorem putBack_get {H1 : Heap} {x : Site} : ∀ {G H H' : Heap}, putBack H1 G H = some H' → H'.get x = if x ∈ G.at then H1.get x else H.get x
  | [], H, H', h => by simp only [putBack] at h; cases h; simp [Heap.at]
  | (s, b) :: r, H, H', h => by
    simp only [putBack] at h
    split at h
    · rename_i b1 hb
      have := putBack_get (x := x) h
      rw [this, Heap.get_set]
      by_cases hr : x ∈ Heap.at r
      · rw [if_pos hr, if_pos (at_cons.2 (.inr hr))]
      · rw [if_neg hr]
        by_cases hs : s = x
        · subst hs; rw [if_pos rfl, if_pos (at_cons.2 (.inl rfl))]; exact hb.symm
        · rw [if_neg hs, if_neg]
          rw [at_cons]
          rintro (h | h)
          · exact hs h.symm
          · exact hr h
    · cases h
theorem putBack_any {H1 : Heap} : ∀ {G H H' : Heap} (H2 : Heap), putBack H1 G H = some H' → ∃ H2', putBack H1 G H2 = some H2'
  | [], H, H', H2, h => ⟨H2, rfl⟩
  | (s, b) :: r, H, H', H2, h => by
    simp only [putBack] at h ⊢
    split at h
    · exact putBack_any _ h
    · cases h
theorem putBack_low {d : Nat} {H1 G H H' : Heap} (h : putBack H1 G H = some H') (hG : Low d G) (hH : Low d H) : Low d H' := fun s b hb => by
  rw [putBack_get h] at hb
  split at hb
  · rename_i hs
    obtain ⟨c, hc⟩ := mem_at.1 hs
    exact hG s c hc
  · exact hH s b hb
theorem cutH_low {d : Nat} {H : Heap} {l : List Site} (h : Low d H) : Low d (cutH H l) := fun s b hb => by
  rw [get_cutH] at hb
  split at hb
  · exact h s b hb
  · cases hb

def CallerOk (P : Program) (C : Caller) : Prop := ∀ d π f args H r H', C d π f args H = some (r, H') →
  Low d H → ∀ B ρ old w (cargs : Array Value), RelL ρ old w args cargs.toList → HRel B ρ old w H → B ≤ w.heap.size → (∀ q, old q → ∀ τ m, q ≠ τ ++ m :: π) →
    FnIs P f ∧ Calls P f cargs w (CallPost d B H ρ old w r H' fun q => ∃ τ m, q = τ ++ m :: π)

/-- what a function that is spoken for leaves: as one that is handed values -/
def SpecPost (w : World) (r : AV) (e : Ending) (w' : World) : Prop :=
  ∃ r' H', CallPost 0 w.heap.size [] (ρ0 fun _ => False) old0 w r' H' (fun _ => True) e w' ∧ distinct r'.refs = true ∧ packT true 0 H' r' = some r

def SpecOk (P : Program) (PP : Prog) : Prop := ∀ f g, PP.spec f = some g → FnIs P f ∧ ∀ as r, g as = some r → ∀ w (cargs : Array Value), RelL (ρ0 fun _ => False) old0 w as cargs.toList →
  Calls P f cargs w (SpecPost w r)

theorem HRel.move {B : Nat} {ρ ρt : Map} {old old' : List Nat → Prop} {w w' : World} {H Ht : Heap} (h : HRel B ρ old w H) (k : Keep ρ ρt old old' w w')
    (hg : ∀ s, Ht.get s = if (ρt s).isSome then H.get s else Option.none) (hm : ∀ s x, ρt s = some x → ρ s = some x) (hs : ∀ b, (∃ s z st, ρt s = some (b, z, st)) → w'.heap[b]? = w.heap[b]?) : HRel B ρt old' w' Ht := by
  refine ⟨fun s blk hb => ?_, fun s b z st hb => ?_, fun s s' b z z' st st' e1 e2 => h.inj _ _ _ _ _ _ _ (hm _ _ e1) (hm _ _ e2)⟩
  · rw [hg] at hb
    split at hb
    · rename_i hq
      obtain ⟨x, hx⟩ := Option.isSome_iff_exists.1 hq
      obtain ⟨b, e, h1, h2, c, ty, h3, h4⟩ := h.there s blk hb
      have := hm _ _ hx
      rw [e] at this; cases this
      exact ⟨b, hx, h1, k.olds _ h2, c, ty, by rw [hs b ⟨s, _, _, hx⟩]; exact h3, h4.mono fun v u hv => RelV.mono k v u hv⟩
    · cases hb
  · obtain ⟨h1, h2⟩ := h.inb _ _ _ _ (hm _ _ hb)
    exact ⟨h1, lt_of_same h2 (hs b ⟨s, _, _, hb⟩)⟩
theorem Fr.mono {D D' : Nat} {H1 H2 : Heap} {ρ1 ρ2 : Map} {w1 w2 : World} (h : Fr D' H1 ρ1 w1 H2 ρ2 w2) (hd : D ≤ D') : Fr D H1 ρ1 w1 H2 ρ2 w2 := fun s hs => h s (by omega)
theorem Fr.put {D : Nat} {H1 H2 H3 : Heap} {ρ1 ρ2 ρ3 : Map} {w1 w2 : World} (h : Fr D H1 ρ1 w1 H2 ρ2 w2) (hp : ∀ s : Site, s.d ≠ D → ρ3 s = ρ2 s ∧ H3.get s = H2.get s) : Fr D H1 ρ1 w1 H3 ρ3 w2 := fun s hs h1 => by
  obtain ⟨a1, a2, a3⟩ := h s hs h1
  obtain ⟨b1, b2⟩ := hp s (by omega)
  exact ⟨b2.trans a1, b1.trans a2, a3⟩

section
variable {P : Program} {PP : Prog} {C : Caller} {B : Nat} {ρ : Map} {old : List Nat → Prop} {w : World} {st : List Nat} {H H' : Heap} {v : AV}

theorem freezes_rel (hH : HRel B ρ old w H) {xs xs' : List AV} {ys : List Value} (h : optList (freeze H 8) xs = some xs') (hr : RelL ρ old w xs ys) : RelL (ρ0 fun _ => False) old0 w xs' ys := by
  induction xs generalizing xs' ys with
  | nil => simp only [optList] at h; cases h; cases ys with
    | nil => simp only [RelL]
    | cons _ _ => simp only [RelL] at hr
  | cons x xs ih =>
    obtain ⟨y, s, h1, h2, rfl⟩ := optList_cons h
    cases ys with
    | nil => simp only [RelL] at hr
    | cons z zs =>
      simp only [RelL] at hr ⊢
      exact ⟨(freeze_rel hH 8 _ _ _ h1 hr.1).2, ih h2 hr.2⟩

/-- the last step: the blocks that were claimed are no longer avoided, but owned. -/
theorem drop_av {all : Bool} {d Bc j' : Nat} {ρc ρt ρ2 : Map} {oldc oldt old2 : List Nat → Prop} {w1 : World} {u : Value} (av : Nat → Prop) (hav : ∀ b, av b → ρ2.av b) (h : Put all d B ρc oldc w1 st j' [] ρ2 old2 H') (hr : RelV ρ2 old2 w1 v u) :
    Keep ρ2 ⟨ρ2.m, av⟩ old2 old2 w1 w1 ∧ RelV ⟨ρ2.m, av⟩ old2 w1 v u ∧ HRel B ⟨ρ2.m, av⟩ old2 w1 H' := by
  have k : Keep ρ2 ⟨ρ2.m, av⟩ old2 old2 w1 w1 := ⟨fun b _ hn => ⟨rfl, by
    rintro (h1 | h1)
    · exact hn (.inl (hav b h1))
    · exact hn (.inr h1)⟩, fun _ _ _ _ e _ => e, fun _ h => h, fun _ _ _ _ _ _ => rfl⟩
  refine ⟨k, RelV.mono k _ _ hr, h.heap.move k (fun s => ?_) (fun s x hx => hx) fun b _ => rfl⟩
  cases hx : ρ2 s with
  | none =>
    cases hq : H'.get s with
    | none => simp
    | some b => obtain ⟨b', e, _⟩ := h.heap.there s b hq; rw [hx] at e; cases e
  | some x => simp [show (⟨ρ2.m, av⟩ : Map) s = some x from hx]

/-- what was made by values is handed back. -/
theorem handBack {w1 : World} {r r' y : AV} {H1 H2 : Heap} {e : Ending} {d t : Nat} {S : List Nat → Prop} (hpost : CallPost 0 w.heap.size [] (ρ0 fun _ => False) old0 w r H1 S e w1) (hdis : distinct r.refs = true) (hpack : packT true 0 H1 r = some r')
    (hth : thawT d t st H r' = (y, H2)) (hH : HRel B ρ old w H) (hB : B ≤ w.heap.size) (hst : ∀ q, old q → ∀ τ, q ≠ τ ++ st) : CallPost d B H ρ old w y H2 (fun q => ∃ τ, q = τ ++ st) e w1 := by
  obtain ⟨u, ρ1, old1, he, k1, hu, hH1, hb, hsub, hav, _⟩ := hpost
  let X : Nat → Prop := fun b => ∃ s z q, ρ1 s = some (b, z, q)
  let ρt : Map := ⟨ρ.m, fun b => ρ.av b ∨ X b⟩
  have hlt : ∀ s b z q, ρ s = some (b, z, q) → b < w.heap.size := fun s b z q e => (hH.lt ⟨s, z, q, e⟩).2
  have k2 : Keep ρ ρt old old w w1 := by
    refine ⟨fun b hlt hn => ⟨hb.block b hlt, ?_⟩, fun _ _ _ _ e _ => e, fun _ h => h, fun s b z q e _ => ?_⟩
    · rintro ((q | q) | q)
      · exact hn (.inl q)
      · have := (hH1.lt q).1; omega
      · exact hn (.inr q)
    · unfold World.shape?; rw [hb.block b (hlt s b z q e)]
  have hHt : HRel B ρt old w1 H := hH.move k2 (fun s => by
    cases hx : ρ s with
    | none =>
      cases hq : H.get s with
      | none => rfl
      | some b => obtain ⟨b', e, _⟩ := hH.there s b hq; rw [hx] at e; cases e
    | some x => rfl) (fun s x hx => hx) (fun b ⟨s, z, q, e⟩ => hb.block b (hlt s b z q e))
  have hput : Put true 0 B ρ1 old1 w1 st 0 r.refs ρt old H := by
    refine ⟨hHt, fun x u hx hxu => dry_rel (hx rfl) hxu, fun i _ ho => hst _ ho [i + 1] rfl, fun s _ hd b z q e => ⟨Nat.le_trans hB (hH1.lt ⟨s, z, q, e⟩).1, .inr ⟨s, z, q, e⟩, fun s' z' q' e' => ?_⟩⟩
    have := hlt s' b z' q' e'
    have := (hH1.lt ⟨s, z, q, e⟩).1
    omega
  obtain ⟨j', ρ2, old2, hp2, hu2, k3, hsub2, hav2, hoth⟩ := put_tup (D := d) (T := t) hH1 hput hdis hpack hu hth
  obtain ⟨k4, hu3, hH3⟩ := drop_av (ρc := ρ1) (ρt := ρt) (oldc := old1) (oldt := old) (Bc := B) ρ.av (fun b hb => by rw [hav2]; exact .inl hb) hp2 hu2
  have hmid : Fr d H ρ w H ρt w1 := fun s _ hn => ⟨hn, rfl, fun b z q e => hb.block b (hlt s b z q e)⟩
  exact ⟨u, _, old2, he, (k2.trans k3 hb.size).trans k4 hb.size, hu3, hH3, hb.mono hB, fun q hq => hsub2 q hq, rfl, hmid.put (ρ3 := ⟨ρ2.m, ρ.av⟩) fun s hs => hoth s hs⟩

theorem callIn_ok (hC : CallerOk P C) (hS : SpecOk P PP) {inl : Bool} {d t : Nat} {f : FuncId} {args : List AV} {cargs : Array Value} (h : callIn PP C inl d t st f args H = some (v, H')) (hl : Low d H) (hr : RelL ρ old w args cargs.toList) (hH : HRel B ρ old w H) (hB : B ≤ w.heap.size)
    (hst : ∀ q, old q → ∀ τ, q ≠ τ ++ st) : FnIs P f ∧ Calls P f cargs w (CallPost d B H ρ old w v H' fun q => ∃ τ, q = τ ++ st) := by
  unfold callIn at h
  split at h
  · rename_i g hg
    obtain ⟨h1, h2⟩ := hS f g hg
    split at h
    · cases h
    · rename_i as has
      split at h
      · cases h
      · rename_i r hgr
        split at h <;> first | (cases h; done) | skip
        cases hth : thawT d t st H r with
        | mk y H2 =>
        rw [hth] at h
        cases h
        refine ⟨h1, (h2 as _ hgr w cargs (freezes_rel hH has hr)).mono ?_⟩
        rintro e w' ⟨r0, H0, hpost, hdis, hpack⟩
        exact handBack hpost hdis hpack hth hH hB hst
  · split at h
    · -- in the caller's memory
      split at h
      · cases h
      · rename_i r H1 hcall
        split at h <;> first | (cases h; done) | skip
        rename_i hdis
        split at h <;> first | (cases h; done) | skip
        rename_i r' hpack
        split at h <;> first | (cases h; done) | skip
        rename_i hin
        split at h <;> first | (cases h; done) | skip
        rename_i Ht hput0
        cases hth : thawT d t st Ht r' with
        | mk y H2 =>
        rw [hth] at h
        cases h
        let G := cutH H (handed H args)
        have hGH : ∀ s b, G.get s = some b → H.get s = some b := fun s b hb => by
          rw [get_cutH] at hb
          split at hb
          · exact hb
          · cases hb
        have hGl : Low d G := cutH_low hl
        have hHG : HRel B ρ old w G := ⟨fun s blk hg => hH.there s blk (hGH s blk hg), hH.inb, hH.inj⟩
        obtain ⟨h1, h2⟩ := hC _ _ _ _ _ _ _ hcall (fun s b hb => Nat.le_succ_of_le (hGl s b hb)) B ρ old w cargs hr hHG hB (fun q hq τ m e => hst q hq (τ ++ [m, 0]) (by rw [e]; simp))
        refine ⟨h1, h2.mono ?_⟩
        rintro e w1 ⟨u, ρ1, old1, he, k1, hu, hH1, hb, hsub, hav, hfr⟩
        let X : Nat → Prop := fun b => ∃ s z q, d < s.d ∧ ρ1 s = some (b, z, q)
        let ρt : Map := ⟨fun s => if s.d ≤ d then ρ1 s else none, fun b => ρ1.av b ∨ X b⟩
        have hρt : ∀ s x, ρt s = some x → ρ1 s = some x ∧ s.d ≤ d := by
          intro s x hx
          simp only [ρt] at hx
          split at hx
          · exact ⟨hx, by assumption⟩
          · cases hx
        have k2 : Keep ρ1 ρt old1 old1 w1 w1 := ⟨fun b _ hn => ⟨rfl, by
          rintro ((q | ⟨s, z, q, q1, q2⟩) | ⟨s, z, q, q1⟩)
          · exact hn (.inl q)
          · exact hn (.inr ⟨s, z, q, q2⟩)
          · exact hn (.inr ⟨s, z, q, (hρt _ _ q1).1⟩)⟩, fun s b z q e _ => (hρt _ _ e).1, fun _ h => h, fun _ _ _ _ _ _ => rfl⟩
        have hgt : ∀ s, Ht.get s = if s ∈ G.at then H1.get s else H.get s := fun s => putBack_get hput0
        have hHt : HRel B ρt old1 w1 Ht := by
          refine ⟨fun s blk hg => ?_, fun s b z q e => hH1.inb _ _ _ _ (hρt _ _ e).1, fun s s' b z z' q q' e1 e2 => hH1.inj _ _ _ _ _ _ _ (hρt _ _ e1).1 (hρt _ _ e2).1⟩
          rw [hgt] at hg
          split at hg
          · rename_i hs
            obtain ⟨c, hc⟩ := mem_at.1 hs
            obtain ⟨b, e1, e2, e3, c, ty, e4, e5⟩ := hH1.there s blk hg
            exact ⟨b, by simp [ρt, hGl s _ hc, e1], e2, e3, c, ty, e4, e5.mono fun v u hv => RelV.mono k2 v u hv⟩
          · rename_i hs
            have hd := hl s blk hg
            have hno : G.get s = none := by
              cases hq : G.get s with
              | none => rfl
              | some c => exact absurd (mem_at.2 ⟨c, hq⟩) hs
            obtain ⟨b, e1, e2, e3, c, ty, e4, e5⟩ := hH.there s blk hg
            obtain ⟨f1, f2, f3⟩ := hfr s (by omega) hno
            refine ⟨b, ?_, e2, k1.olds _ e3, c, ty, by rw [f3 _ _ _ e1]; exact e4, e5.mono fun v u hv => RelV.mono k2 v u (RelV.mono k1 v u hv)⟩
            simp only [ρt, hd, if_true]
            rw [f2]; exact e1
        have hput : Put false (d + 1) B ρ1 old1 w1 st 0 r.refs ρt old1 Ht := by
          refine ⟨hHt, fun x u _ hxu => RelV.mono k2 x u hxu, fun i _ ho => ?_, fun s _ hd b z q e => ⟨(hH1.lt ⟨s, z, q, e⟩).1, .inr ⟨s, z, q, by omega, e⟩, fun s' z' q' e' => ?_⟩⟩
          · rcases hsub _ ho with h | ⟨τ, m, h⟩
            · exact hst _ h [i + 1] rfl
            · have := congrArg List.length h
              simp at this; omega
          · obtain ⟨e1, e2⟩ := hρt _ _ e'
            have := hH1.inj _ _ _ _ _ _ _ e e1
            subst this; omega
        obtain ⟨j', ρ2, old2, hp2, hu2, k3, hsub2, hav2, hoth⟩ := put_tup (D := d) (T := t) hH1 hput hdis hpack hu hth
        obtain ⟨k4, hu3, hH3⟩ := drop_av (ρc := ρ1) (ρt := ρt) (oldc := old1) (oldt := old1) (Bc := B) ρ1.av (fun b hb => by rw [hav2]; exact .inl hb) hp2 hu2
        refine ⟨u, _, old2, he, ((k1.trans k2 hb.size).trans k3 hb.size).trans k4 hb.size, hu3, hH3, hb, fun q hq => ?_, hav, ?_⟩
        · rcases hsub2 q hq with h | h
          · rcases hsub q h with h | ⟨τ, m, h⟩
            · exact .inl h
            · exact .inr ⟨τ ++ [m, 0], by rw [h]; simp⟩
          · exact .inr h
        · have hmid : Fr d H ρ w Ht ρt w1 := by
            intro s hs hn
            have hno : G.get s = none := by
              cases hq : G.get s with
              | none => rfl
              | some c => rw [hGH s c hq] at hn; cases hn
            have hnot : ¬ s ∈ G.at := fun h => by obtain ⟨c, hc⟩ := mem_at.1 h; rw [hno] at hc; cases hc
            obtain ⟨f1, f2, f3⟩ := hfr s (by omega) hno
            refine ⟨by rw [hgt, if_neg hnot]; exact hn, ?_, f3⟩
            simp only [ρt, show s.d ≤ d by omega, if_true]
            exact f2
          exact hmid.put (ρ3 := ⟨ρ2.m, ρ1.av⟩) fun s hs => hoth s hs
    · -- by values
      split at h
      · cases h
      · rename_i as has
        split at h
        · cases h
        · rename_i r H1 hcall
          split at h <;> first | (cases h; done) | skip
          rename_i hdis
          split at h <;> first | (cases h; done) | skip
          rename_i r' hpack
          cases hth : thawT d t st H r' with
          | mk y H2 =>
          rw [hth] at h
          cases h
          have hnil : HRel w.heap.size (ρ0 fun _ => False) old0 w [] := ⟨fun s blk hg => by simp [Heap.get] at hg, fun s b z q e => by simp [ρ0] at e, fun s s' b z z' q q' e _ => by simp [ρ0] at e⟩
          obtain ⟨h1, h2⟩ := hC _ _ _ _ _ _ _ hcall (Low.nil 0) w.heap.size (ρ0 fun _ => False) old0 w cargs (freezes_rel hH has hr) hnil (Nat.le_refl _) (fun q hq => hq.elim)
          refine ⟨h1, h2.mono ?_⟩
          intro e w1 hpost
          exact handBack hpost hdis hpack hth hH hB hst
end
end Go.Proofs.Ytnccnmeecngopaa.Fw
