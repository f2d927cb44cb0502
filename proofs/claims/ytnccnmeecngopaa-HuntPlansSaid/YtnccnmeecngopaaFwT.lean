/- The abstract evaluator, part T: what a whole operation, calls among them, minds of its surroundings. -/
import Derived.Test.YtnccnmeecngopaaFwS
set_option linter.unusedVariables false
set_option linter.unusedSimpArgs false
set_option linter.unnecessarySimpa false
namespace Go.Proofs.Ytnccnmeecngopaa.Fw
open Go Go.RowKit

def Packed (x : AV) : Prop := (∃ z els leaf, x = .own z els leaf) ∨ (∃ cs leaf, x = .ownp cs leaf) ∨ (x.dry = true)

theorem packC_packed {d : Nat} {H : Heap} {x y : AV} (h : packC true d H x = some y) : Packed y := by
  cases x <;> simp only [packC, Bool.true_and] at h
  case slc s st z off len full =>
    split at h
    · split at h
      · cases h
      · split at h
        · cases h; exact .inl ⟨_, _, _, rfl⟩
        · cases h
    · cases h
  case ptr s st i off =>
    split at h
    · split at h
      · cases h
      · split at h
        · split at h
          · cases h; exact .inr (.inl ⟨_, _, rfl⟩)
          · cases h
        · cases h
    · cases h
  all_goals first
    | (cases h; done)
    | (split at h
       · cases h
       · rename_i hd; cases h; exact .inr (.inr (by simpa using hd)))

theorem optList_mem {α β : Type} {f : α → Option β} : ∀ {l : List α} {r : List β}, optList f l = some r → ∀ y ∈ r, ∃ x ∈ l, f x = some y
  | [], r, h, y, hy => by simp only [optList] at h; cases h; simp at hy
  | x :: l, r, h, y, hy => by
    obtain ⟨z, zs, e1, e2, rfl⟩ := optList_cons h
    rcases List.mem_cons.1 hy with rfl | hy
    · exact ⟨x, by simp, e1⟩
    · obtain ⟨x', h1, h2⟩ := optList_mem e2 y hy
      exact ⟨x', by simp [h1], h2⟩

def Packed2 (x : AV) : Prop := (∃ cs, x = .agg cs ∧ ∀ c ∈ cs, Packed c) ∨ Packed x
theorem packA_packed {d : Nat} {H : Heap} {x y : AV} (h : packA true d H x = some y) : Packed2 y := by
  unfold packA at h
  split at h
  · rw [Option.map_eq_some_iff] at h
    obtain ⟨l, h1, rfl⟩ := h
    refine .inl ⟨l, rfl, fun c hc => ?_⟩
    obtain ⟨x, _, hx⟩ := optList_mem h1 c hc
    exact packC_packed hx
  · exact .inr (packC_packed h)
def Packed3 (x : AV) : Prop := (∃ cs, x = .tup cs ∧ ∀ c ∈ cs, Packed2 c) ∨ Packed2 x
theorem packT_packed {d : Nat} {H : Heap} {x y : AV} (h : packT true d H x = some y) : Packed3 y := by
  unfold packT at h
  split at h
  · rw [Option.map_eq_some_iff] at h
    obtain ⟨l, h1, rfl⟩ := h
    refine .inl ⟨l, rfl, fun c hc => ?_⟩
    obtain ⟨x, _, hx⟩ := optList_mem h1 c hc
    exact packA_packed hx
  · exact .inr (packA_packed h)

theorem packed_refs {x : AV} (h : Packed x) : x.refs = [] := by
  rcases h with ⟨z, els, leaf, rfl⟩ | ⟨cs, leaf, rfl⟩ | h
  · simp only [AV.refs]
  · simp only [AV.refs]
  · exact dry_refs x h
theorem refsL_nil {l : List AV} (h : ∀ x ∈ l, x.refs = []) : AV.refsL l = [] := by
  induction l with
  | nil => simp only [AV.refsL]
  | cons x r ih => simp only [AV.refsL]; rw [h x (by simp), ih fun y hy => h y (by simp [hy])]; rfl
theorem packed2_refs {x : AV} (h : Packed2 x) : x.refs = [] := by
  rcases h with ⟨cs, rfl, hc⟩ | h
  · simp only [AV.refs]; exact refsL_nil fun c hx => packed_refs (hc c hx)
  · exact packed_refs h
theorem packed3_refs {x : AV} (h : Packed3 x) : x.refs = [] := by
  rcases h with ⟨cs, rfl, hc⟩ | h
  · simp only [AV.refs]; exact refsL_nil fun c hx => packed2_refs (hc c hx)
  · exact packed2_refs h

/-- what is put in its place: which places that sets -/
def Thaws (F : Nat → Heap → AV → AV × Nat × Heap) (x : AV) : Prop :=
  ∀ j, ∃ y j' f W, (∀ H, F j H x = (y, j', f H)) ∧ Laid W f ∧ (∀ s ∈ W, s ∈ y.refs) ∧ ∀ s ∈ y.refs, s ∈ W ∨ s ∈ x.refs

theorem thawC_thaws (d t : Nat) (st : List Nat) (x : AV) : Thaws (thawC d t st) x := by
  intro j
  cases x
  case own z els leaf => exact ⟨_, _, fun G => G.set ⟨d, t, j⟩ ⟨(j + 1) :: st, els, z, leaf⟩, [⟨d, t, j⟩], fun H => rfl, Laid.one _ _, fun s hs => by simpa only [AV.refs] using hs, fun s hs => .inl (by simpa only [AV.refs] using hs)⟩
  case ownp cs leaf => exact ⟨_, _, fun G => G.set ⟨d, t, j⟩ ⟨(j + 1) :: st, [cs], cs.length, leaf⟩, [⟨d, t, j⟩], fun H => rfl, Laid.one _ _, fun s hs => by simpa only [AV.refs] using hs, fun s hs => .inl (by simpa only [AV.refs] using hs)⟩
  all_goals exact ⟨_, j, id, [], fun H => rfl, Laid.id, fun s hs => by simp at hs, fun s hs => .inr hs⟩

theorem thawL_thaws {F : Nat → Heap → AV → AV × Nat × Heap} (hF : ∀ x, Thaws F x) : ∀ (l : List AV) (j : Nat), ∃ ys j' f W, (∀ H, thawL F j H l = (ys, j', f H)) ∧ Laid W f ∧ (∀ s ∈ W, s ∈ AV.refsL ys) ∧ ∀ s ∈ AV.refsL ys, s ∈ W ∨ s ∈ AV.refsL l
  | [], j => ⟨[], j, id, [], fun H => rfl, Laid.id, fun s hs => by simp at hs, fun s hs => .inr hs⟩
  | x :: r, j => by
    obtain ⟨y, j1, f, V, h1, h2, h2a, h2b⟩ := hF x j
    obtain ⟨ys, j2, g, W, h3, h4, h4a, h4b⟩ := thawL_thaws hF r j1
    refine ⟨y :: ys, j2, fun G => g (f G), V ++ W, fun H => by simp only [thawL, h1, h3], h2.comp h4, fun s hs => ?_, fun s hs => ?_⟩
    · simp only [AV.refsL, List.mem_append] at hs ⊢
      exact hs.imp (h2a s) (h4a s)
    · simp only [AV.refsL, List.mem_append] at hs ⊢
      rcases hs with hs | hs
      · rcases h2b s hs with h | h
        · exact .inl (.inl h)
        · exact .inr (.inl h)
      · rcases h4b s hs with h | h
        · exact .inl (.inr h)
        · exact .inr (.inr h)

theorem thawA_thaws (d t : Nat) (st : List Nat) (x : AV) : Thaws (thawA d t st) x := by
  by_cases hx : ∃ cs, x = .agg cs
  · obtain ⟨cs, rfl⟩ := hx
    intro j
    obtain ⟨ys, j', f, W, h1, h2, h3, h4⟩ := thawL_thaws (thawC_thaws d t st) cs j
    exact ⟨.agg ys, j', f, W, fun H => by simp only [thawA, h1], h2, fun s hs => by simp only [AV.refs]; exact h3 s hs, fun s hs => by simp only [AV.refs] at hs ⊢; exact h4 s hs⟩
  · intro j
    obtain ⟨y, j', f, W, h1, h2⟩ := thawC_thaws d t st x j
    refine ⟨y, j', f, W, fun H => ?_, h2⟩
    rw [← h1 H]
    cases x <;> first | rfl | exact absurd ⟨_, rfl⟩ hx

theorem thawT_thaws (d t : Nat) (st : List Nat) (x : AV) : ∃ y f W, (∀ H, thawT d t st H x = (y, f H)) ∧ Laid W f ∧ (∀ s ∈ W, s ∈ y.refs) ∧ ∀ s ∈ y.refs, s ∈ W ∨ s ∈ x.refs := by
  by_cases hx : ∃ cs, x = .tup cs
  · obtain ⟨cs, rfl⟩ := hx
    obtain ⟨ys, j', f, W, h1, h2, h3, h4⟩ := thawL_thaws (thawA_thaws d t st) cs 0
    exact ⟨.tup ys, f, W, fun H => by simp only [thawT, h1], h2, fun s hs => by simp only [AV.refs]; exact h3 s hs, fun s hs => by simp only [AV.refs] at hs ⊢; exact h4 s hs⟩
  · obtain ⟨y, j', f, W, h1, h2⟩ := thawA_thaws d t st x 0
    refine ⟨y, f, W, fun H => ?_, h2⟩
    cases x <;> first | (simp only [thawT, h1]; done) | exact absurd ⟨_, rfl⟩ hx

theorem Laid.congr {V W : List Site} {f : Heap → Heap} (h : Laid V f) (e : ∀ s, s ∈ V ↔ s ∈ W) : Laid W f := fun G G0 s => by
  rw [h G G0 s]
  by_cases hs : s ∈ V
  · rw [if_pos hs, if_pos ((e s).1 hs)]
  · rw [if_neg hs, if_neg (fun hw => hs ((e s).2 hw))]

theorem flatA_refs {x : AV} (h : flatA x = true) : x.refs = [] := by
  unfold flatA at h
  split at h
  · simp only [AV.refs, dryL_refs _ h]
  · exact dry_refs x h
theorem flatAs_refs : ∀ {l : List AV}, flatAs l = true → AV.refsL l = []
  | [], _ => by simp only [AV.refsL]
  | x :: r, h => by
    simp only [flatAs, Bool.and_eq_true] at h
    simp only [AV.refsL, flatA_refs h.1, flatAs_refs h.2, List.append_nil]
theorem flatT_refs {x : AV} (h : flatT x = true) : x.refs = [] := by
  unfold flatT at h
  split at h
  · simp only [AV.refs, flatAs_refs h]
  · exact flatA_refs h

section
variable {PP : Prog} {C : Caller} {d t : Nat} {st : List Nat} {H H' H2 : Heap} {v : AV} {e e2 : Env} {o : MO} {R : List Site}

theorem callIn_lays {f : FuncId} {args : List AV} (h : callIn PP C false d t st f args H = some (v, H')) (hs : ∀ s ∈ args.flatMap (freezeR H 8), H2.get s = H.get s) :
    ∃ H2', callIn PP C false d t st f args H2 = some (v, H2') ∧ Lays v.refs H2 H' H2' := by
  unfold callIn at h ⊢
  rw [freezes_same hs]
  split at h
  · rename_i g hg
    split at h
    · cases h
    · rename_i as has
      split at h
      · cases h
      · rename_i r hr
        split at h
        · rename_i hf
          obtain ⟨y, g, W, h1, h2, h3, h4⟩ := thawT_thaws d t st r
          have h2 := h2.congr (W := y.refs) fun s => ⟨h3 s, fun hs => (h4 s hs).elim id fun hx => by rw [List.isEmpty_iff.1 hf] at hx; cases hx⟩
          rw [h1 H] at h
          cases h
          refine ⟨g H2, ?_, h2 H2 H⟩
          simp only [if_pos hf, h1]
        · cases h
  · rw [if_neg (by simp)] at h
    split at h
    · cases h
    · rename_i as has
      split at h
      · cases h
      · rename_i r H1 hr
        split at h
        · rename_i hd
          split at h
          · cases h
          · rename_i r' hp
            obtain ⟨y, g, W, h1, h2, h3, h4⟩ := thawT_thaws d t st r'
            have h2 := h2.congr (W := y.refs) fun s => ⟨h3 s, fun hs => (h4 s hs).elim id fun hx => by rw [packed3_refs (packT_packed hp)] at hx; cases hx⟩
            rw [h1 H] at h
            cases h
            refine ⟨g H2, ?_, h2 H2 H⟩
            simp only [if_pos hd, hp, h1, Bool.false_eq_true, if_false]
        · cases h

theorem callIn_lays_inl {f : FuncId} {args : List AV} (hsp : PP.spec f = none) (h : callIn PP C true d t st f args H = some (v, H')) (hs : ∀ s ∈ handed H args, H2.get s = H.get s) :
    ∃ H2', callIn PP C true d t st f args H2 = some (v, H2') ∧ Lays (handed H args ++ v.refs) H2 H' H2' := by
  unfold callIn at h ⊢
  rw [hsp] at h ⊢
  simp only [if_true] at h ⊢
  rw [handed_same hs, cutH_same hs]
  split at h
  · cases h
  · rename_i r H1 hr
    split at h <;> first | (cases h; done) | skip
    rename_i hd
    split at h
    · cases h
    · rename_i r' hp
      split at h <;> first | (cases h; done) | skip
      rename_i hin
      split at h
      · cases h
      · rename_i Ht hput
        obtain ⟨Ht2, hput2⟩ := putBack_any H2 hput
        obtain ⟨y, g, W, h1, h2, h3, h4⟩ := thawT_thaws d t st r'
        rw [h1 Ht] at h
        cases h
        refine ⟨g Ht2, ?_, fun s => ?_⟩
        · simp only [if_pos hd, hin, if_true, hput2, h1]
        · have a := h2 Ht2 Ht s
          have b := h2 Ht Ht s
          have c := putBack_get (x := s) hput
          have c2 := putBack_get (x := s) hput2
          by_cases hw : s ∈ W
          · rw [if_pos hw] at a
            rw [a, if_pos (List.mem_append_right _ (h3 s hw))]
          · rw [if_neg hw] at a b
            rw [a, c2]
            by_cases hG : s ∈ Heap.at (cutH H (handed H args))
            · rw [if_pos hG] at c ⊢
              have hh : s ∈ handed H args := by
                obtain ⟨b0, hb0⟩ := mem_at.1 hG
                rw [get_cutH] at hb0
                split at hb0
                · assumption
                · cases hb0
              rw [if_pos (List.mem_append_left _ hh), b, c]
            · rw [if_neg hG] at c ⊢
              by_cases hm : s ∈ handed H args ++ v.refs
              · rw [if_pos hm, b, c]
                rcases List.mem_append.1 hm with hh | hy
                · exact hs s hh
                · rcases h4 s hy with h | h
                  · exact absurd h hw
                  · exfalso
                    have := List.all_eq_true.1 hin s h
                    obtain ⟨b0, hb0⟩ := Option.isSome_iff_exists.1 this
                    exact hG (mem_at.2 ⟨b0, hb0⟩)
              · rw [if_neg hm]

theorem inlOf_spec {f : FuncId} (h : inlOf PP f = true) : PP.spec f = none := by
  unfold inlOf at h
  split at h
  · cases h
  · assumption

theorem stepOp_lays (h : stepOp PP C d st o e H = some (v, H')) (hR : footR PP o e H = some R) (he : ∀ t ∈ o.op.uses, e2.get t = e.get t) (hs : ∀ s ∈ R, H2.get s = H.get s) :
    ∃ H2', stepOp PP C d st o e2 H2 = some (v, H2') ∧ Lays (footW PP ⟨d, o.dst.getD 0, 0⟩ o e H v) H2 H' H2' := by
  cases hc : isCall o.op with
  | true =>
    obtain ⟨dst, m, gd, pre⟩ := o
    simp only at he hc
    cases m <;> first | (cases hc; done) | skip
    case call f xs =>
      simp only [stepOp] at h ⊢
      simp only [footR] at hR
      simp only [footW]
      rw [evs_same (xs := xs) (by simpa only [MOp.uses] using he)]
      cases hi : inlOf PP f with
      | true =>
        rw [hi] at h hR
        simp only [if_true] at hR ⊢
        cases hR
        exact callIn_lays_inl (inlOf_spec hi) h hs
      | false =>
        rw [hi] at h hR
        simp only [Bool.false_eq_true, if_false, List.nil_append] at hR ⊢
        cases hR
        exact callIn_lays h hs
    case callv x xs =>
      simp only [stepOp] at h ⊢
      simp only [footR] at hR
      simp only [footW]
      simp only [MOp.uses, List.mem_append] at he
      rw [ev_same (x := x) fun t ht => he t (.inl ht), evs_same (xs := xs) fun t ht => he t (.inr ht)]
      split at h
      · rename_i f a b hx
        rw [hx] at hR
        simp only at hR
        try simp only [hx]
        cases hi : inlOf PP f with
        | true =>
          rw [hi] at h hR
          simp only [if_true] at hR ⊢
          cases hR
          exact callIn_lays_inl (inlOf_spec hi) h hs
        | false =>
          rw [hi] at h hR
          simp only [Bool.false_eq_true, if_false, List.nil_append] at hR ⊢
          cases hR
          exact callIn_lays h hs
      · cases h
  | false =>
    have eq : ∀ e H, stepOp PP C d st o e H = opSem ⟨d, o.dst.getD 0, 0⟩ st o.op e H := by
      intro e H
      unfold stepOp
      split
      · rename_i hq; rw [hq] at hc; cases hc
      · rename_i hq; rw [hq] at hc; cases hc
      · rfl
    rw [eq] at h
    obtain ⟨H2', h1, h2⟩ := opSem_lays h hR hs
    exact ⟨H2', by rw [eq, opSem_env he]; exact h1, h2⟩
end
end Go.Proofs.Ytnccnmeecngopaa.Fw
