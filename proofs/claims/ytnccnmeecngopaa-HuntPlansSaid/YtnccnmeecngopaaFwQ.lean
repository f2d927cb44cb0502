/- The abstract evaluator, part Q: statements, loops, bodies. -/
import Derived.Test.YtnccnmeecngopaaFwP
set_option linter.unusedVariables false
set_option linter.unusedSimpArgs false
set_option linter.unnecessarySimpa false
namespace Go.Proofs.Ytnccnmeecngopaa.Fw
open Go Go.RowKit

def MC.bare : MC → MC
  | .seq a b => .seq a.bare b.bare
  | .cond c a b => .cond c a.bare b.bare
  | .block id b => .block id b.bare
  | .loop _ b => .loop [] b.bare
  | c => c
theorem annot_bare (ret : List Nat) : ∀ (m : MC) (after : List Nat) (x : List (Nat × List Nat)), (annot ret m after x).bare = m.bare
  | .skip, _, _ => by simp only [annot, MC.bare]
  | .ops .., _, _ => by simp only [annot, MC.bare]
  | .seq a b, after, x => by simp only [annot, MC.bare, annot_bare ret a, annot_bare ret b]
  | .cond c a b, after, x => by simp only [annot, MC.bare, annot_bare ret a, annot_bare ret b]
  | .block id b, after, x => by simp only [annot, MC.bare, annot_bare ret b]
  | .loop _ b, after, x => by simp only [annot, MC.bare, annot_bare ret b]
  | .exit _, _, _ => by simp only [annot, MC.bare]
  | .ret, _, _ => by simp only [annot, MC.bare]
theorem annot_fits (n : Nat) (ret : List Nat) : ∀ (m : MC) (after : List Nat) (x : List (Nat × List Nat)), (annot ret m after x).fits n = m.fits n
  | .skip, _, _ => by simp only [annot, MC.fits]
  | .ops .., _, _ => by simp only [annot, MC.fits]
  | .seq a b, after, x => by simp only [annot, MC.fits, annot_fits n ret a, annot_fits n ret b]
  | .cond c a b, after, x => by simp only [annot, MC.fits, annot_fits n ret a, annot_fits n ret b]
  | .block id b, after, x => by simp only [annot, MC.fits, annot_fits n ret b]
  | .loop _ b, after, x => by simp only [annot, MC.fits, annot_fits n ret b]
  | .exit _, _, _ => by simp only [annot, MC.fits]
  | .ret, _, _ => by simp only [annot, MC.fits]

def exitOf : Ex → Exit
  | .nrm => .normal
  | .exit i => .exit i
  | .ret => .ret

theorem get_liveEnv (e : Env) (t : Nat) : ∀ l : List Nat, (liveEnv e l).get t = e.get t ∨ (liveEnv e l).get t = .junk
  | [] => .inr rfl
  | k :: r => by
    simp only [liveEnv, Env.get]
    by_cases h : k = t
    · subst h; simp
    · rw [if_neg h]; exact get_liveEnv e t r
theorem get_keepSites (d : Nat) (l : List Site) (s : Site) : ∀ H : Heap, (keepSites d l H).get s = if s.d < d ∨ s ∈ l then H.get s else none
  | [] => by simp [keepSites, Heap.get]
  | (k, b) :: r => by
    simp only [keepSites]
    by_cases hk : k.d < d ∨ k ∈ l
    · rw [if_pos hk]
      simp only [Heap.get]
      by_cases hs : k = s
      · subst hs; simp [hk]
      · rw [if_neg hs, if_neg hs]; exact get_keepSites d l s r
    · rw [if_neg hk]
      simp only [Heap.get]
      by_cases hs : k = s
      · subst hs; simp [hk, get_keepSites d l k r]
      · rw [if_neg hs]; exact get_keepSites d l s r

section
variable {P : Program} {PP : Prog} {C : Caller} {D n B : Nat}

theorem prune_good {ρ : Map} {old : List Nat → Prop} {w : World} {s : St} {a : Act} (d : Nat) (live : List Nat) (S : List Nat → Prop) (g : Good d n B ρ old w s.env s.H a) :
    ∃ ρp, After d B s.H ρ old w S (prune d live s).H ρp old w ∧ Good d n B ρp old w (prune d live s).env (prune d live s).H a := by
  let L := reach s.H 3 (refsEnv (liveEnv s.env live))
  let ρp : Map := ⟨fun x => if x.d < d ∨ x ∈ L then ρ x else none, ρ.av⟩
  have hρ : ∀ x y, ρp x = some y → ρ x = some y := by
    intro x y h
    simp only [ρp] at h
    split at h
    · exact h
    · cases h
  have k : Keep ρ ρp old old w w := ⟨fun b _ hn => ⟨rfl, by
    rintro (q | ⟨x, z, q, q1⟩)
    · exact hn (.inl q)
    · exact hn (.inr ⟨x, z, q, hρ _ _ q1⟩)⟩, fun x b z q e _ => hρ _ _ e, fun _ h => h, fun _ _ _ _ _ _ => rfl⟩
  refine ⟨ρp, ⟨k, Below.refl _ _, fun _ h => .inl h, rfl, fun x hx hn => ⟨?_, ?_, fun _ _ _ _ => rfl⟩⟩, ⟨fun t => ?_, ?_, g.base, g.size, g.defers, fun x b hb => ?_⟩⟩
  · show (keepSites d L s.H).get x = none
    rw [get_keepSites, hn]; split <;> rfl
  · simp [ρp, hx]
  · show RelV ρp old w ((liveEnv s.env live).get t) _
    rcases get_liveEnv s.env t live with h | h
    · rw [h]; exact RelV.mono k _ _ (g.env t)
    · rw [h]; simp only [RelV]
  · refine g.heap.move k (fun x => ?_) hρ fun b _ => rfl
    show (keepSites d L s.H).get x = _
    rw [get_keepSites]
    by_cases hx : x.d < d ∨ x ∈ L
    · rw [if_pos hx]
      cases hq : ρ x with
      | none =>
        have : ρp x = none := by simp [ρp, hx, hq]
        rw [this]
        cases hg : s.H.get x with
        | none => rfl
        | some b => obtain ⟨b', e, _⟩ := g.heap.there x b hg; rw [hq] at e; cases e
      | some y =>
        have : ρp x = some y := by simp [ρp, hx, hq]
        rw [this]; rfl
    · rw [if_neg hx]
      have : ρp x = none := by simp [ρp, hx]
      rw [this]; rfl
  · have hb' : (keepSites d L s.H).get x = some b := hb
    rw [get_keepSites] at hb'
    split at hb'
    · exact g.low x b hb'
    · cases hb'

/-- what a statement must leave so that 'Q' holds -/
def Leaves (D n B : Nat) (H : Heap) (Q : Exit → Act → World → Prop) (ρ : Map) (old : List Nat → Prop) (w : World) (S : List Nat → Prop) (x : Ex) (s' : St) : Prop :=
  ∀ ρ' old' a' w', After D B H ρ old w S s'.H ρ' old' w' → Good D n B ρ' old' w' s'.env s'.H a' → Q (exitOf x) a' w'

/-- a statement does what the evaluator says -/
def Walks (P : Program) (D n B : Nat) (run : List Nat → St → Option (Ex × St)) (c : Code) : Prop :=
  ∀ π s x s', run π s = some (x, s') → s.k ≤ s'.k ∧ ∀ ρ old w a, Good D n B ρ old w s.env s.H a → (∀ q, old q → ∀ τ m, s.k ≤ m → q ≠ τ ++ m :: π) →
    ∀ Q, Leaves D n B s.H Q ρ old w (fun q => ∃ τ m, q = τ ++ m :: π ∧ s.k ≤ m ∧ m < s'.k) x s' → c.wp P Q a w

theorem loop_walks {c : Code} {body : List Nat → St → Option (Ex × St)} (hb : Walks P D n B body c) (live : List Nat) (π : List Nat) (k : Nat) : ∀ (m j : Nat) (s : St) (x : Ex) (s' : St),
    evLoop body D live (k :: π) m j s = some (x, s') → ∀ ρ old w a, Good D n B ρ old w s.env s.H a → (∀ q, old q → ∀ τ i, j ≤ i → q ≠ τ ++ i :: k :: π) →
      ∀ Q, Leaves D n B s.H Q ρ old w (fun q => ∃ τ, q = τ ++ k :: π) x s' → Code.rounds P c Q m a w
  | 0, j, s, x, s', h => by simp only [evLoop] at h; cases h
  | m + 1, j, s, x, s', h => by
    intro ρ old w a g hst Q hQ
    rw [rounds_succ]
    simp only [evLoop] at h
    obtain ⟨ρp, ha, gp⟩ := prune_good D live (fun q => ∃ τ, q = τ ++ k :: π) g
    cases hr : body (j :: k :: π) (prune D live s) with
    | none => rw [hr] at h; cases h
    | some xs =>
      obtain ⟨y, s1⟩ := xs
      obtain ⟨_, hw⟩ := hb _ _ _ _ hr
      have hfresh : ∀ q, old q → ∀ τ i, (prune D live s).k ≤ i → q ≠ τ ++ i :: j :: k :: π := by
        intro q hq τ i _ e
        exact hst q hq (τ ++ [i]) j (Nat.le_refl _) (by rw [e]; simp)
      refine hw ρp old w a gp hfresh _ ?_
      intro ρ1 old1 a1 w1 ha1 g1
      have haft : After D B s.H ρ old w (fun q => ∃ τ, q = τ ++ k :: π) s1.H ρ1 old1 w1 := ha.trans ha1 (fun _ h => h) fun q ⟨τ, i, e, _⟩ => ⟨τ ++ [i, j], by rw [e]; simp⟩
      rw [hr] at h
      cases y with
      | nrm =>
        simp only at h
        show Code.rounds P c Q m a1 w1
        refine loop_walks hb live π k m (j + 1) s1 x s' h ρ1 old1 w1 a1 g1 ?_ Q ?_
        · intro q hq τ i hi e
          rcases ha1.news q hq with h1 | ⟨τ1, i1, h1, _⟩
          · exact hst q h1 τ i (by omega) e
          · rw [e] at h1
            have := stamp_same (τ := τ) (τ' := τ1 ++ [i1]) (π := k :: π) (m := i) (m' := j) (by rw [h1]; simp)
            omega
        · intro ρ2 old2 a2 w2 ha2 g2
          exact hQ ρ2 old2 a2 w2 (haft.trans ha2 (fun _ h => h) fun _ h => h) g2
      | exit i =>
        simp only at h
        cases h
        exact hQ ρ1 old1 a1 w1 haft g1
      | ret =>
        simp only at h
        cases h
        exact hQ ρ1 old1 a1 w1 haft g1

/-- regions in no set order -/
def DrawOk (P : Program) (PP : Prog) (C : Caller) : Prop := ∀ (n B id d : Nat) (ops : Array Oper), edgesOk 0 ops.toList = true → dstsOk n (compOps P ops ops.toList (presOf ops.toList [])) = true →
  Walks P d n B (fun π s => (evDraw PP C d π (compOps P ops ops.toList (presOf ops.toList [])) s).map fun s => (.nrm, s)) (.region id ops true)

theorem bad_none {d : Nat} {π : List Nat} {s : St} : evOps PP C d π [⟨none, .bad, none, []⟩] s = none := by
  simp only [evOps, guardOf, stepOp, opSem]

theorem evC_walks (hC : CallerOk P C) (hS : SpecOk P PP) (hD : DrawOk P PP C) (d : Nat) : ∀ (mc : MC) (c : Code), mc.bare = comp P c → mc.fits n = true → Walks P d n B (evC PP C d mc) c
  | .skip, c, he, hf => by
    intro π s x s' h
    simp only [evC] at h
    cases h
    refine ⟨Nat.le_refl _, fun ρ old w a g hst Q hQ => ?_⟩
    cases c <;> simp only [MC.bare, comp] at he <;> first | (cases he; done) | skip
    case skip => exact wp_skip (hQ _ _ _ _ After.refl g)
    case label => exact wp_label (hQ _ _ _ _ After.refl g)
    all_goals first | ((repeat' split at he) <;> cases he; done) | (rename_i dr; cases dr <;> simp only [comp] at he <;> (repeat' split at he) <;> cases he)
  | .ops l dr, c, he, hf => by
    intro π s x s' h
    cases c <;> simp only [MC.bare, comp] at he <;> first | (cases he; done) | (cases he; simp only [evC, bad_none] at h; cases h; done) | skip
    case region id ops draw =>
      cases draw with
      | false =>
        simp only [comp] at he
        cases he
        simp only [evC] at h
        rw [Option.map_eq_some_iff] at h
        obtain ⟨s1, h1, h2⟩ := h
        cases h2
        refine ⟨evOps_k _ _ _ h1, fun ρ old w a g hst Q hQ => wp_region_list ?_⟩
        exact evOps_wp hC hS _ _ _ _ h1 hf g hst fun ρ' old' a' w' ha g' => hQ ρ' old' a' w' ha g'
      | true =>
        simp only [comp] at he
        split at he
        · rename_i hedge
          cases he
          simp only [evC] at h
          exact hD n B id d ops hedge hf π s x s' h
        · cases he; simp only [evC, bad_none] at h; cases h
    case cond =>
      split at he
      · cases he
      · cases he; simp only [evC, bad_none] at h; cases h
  | .seq ma mb, c, he, hf => by
    cases c <;> simp only [MC.bare, comp] at he <;> first | (cases he; done) | skip
    case seq ca cb =>
      simp only [MC.fits, Bool.and_eq_true] at hf
      injection he with h1 h2
      intro π s x s' h
      simp only [evC] at h
      cases ha : evC PP C d ma π s with
      | none => rw [ha] at h; cases h
      | some y =>
        obtain ⟨y, s1⟩ := y
        obtain ⟨hk, hwa⟩ := evC_walks hC hS hD d ma ca h1 hf.1 π s y s1 ha
        rw [ha] at h
        cases y with
        | nrm =>
          simp only at h
          obtain ⟨hk2, hwb⟩ := evC_walks hC hS hD d mb cb h2 hf.2 π s1 x s' h
          refine ⟨by omega, fun ρ old w a g hst Q hQ => wp_seq (hwa ρ old w a g hst _ ?_)⟩
          intro ρ1 old1 a1 w1 ha1 g1
          show cb.wp P Q a1 w1
          refine hwb ρ1 old1 w1 a1 g1 ?_ Q ?_
          · intro q hq τ m hm e
            rcases ha1.news q hq with h1 | ⟨τ1, m1, h1, _, h3⟩
            · exact hst q h1 τ m (by omega) e
            · rw [e] at h1
              have := stamp_same h1
              omega
          · intro ρ2 old2 a2 w2 ha2 g2
            exact hQ _ _ _ _ (ha1.trans ha2 (fun q ⟨τ, m, e, m1, m2⟩ => ⟨τ, m, e, m1, by omega⟩) fun q ⟨τ, m, e, m1, m2⟩ => ⟨τ, m, e, by omega, m2⟩) g2
        | exit i =>
          simp only at h
          cases h
          exact ⟨hk, fun ρ old w a g hst Q hQ => wp_seq (hwa ρ old w a g hst _ fun ρ1 old1 a1 w1 ha1 g1 => hQ _ _ _ _ ha1 g1)⟩
        | ret =>
          simp only at h
          cases h
          exact ⟨hk, fun ρ old w a g hst Q hQ => wp_seq (hwa ρ old w a g hst _ fun ρ1 old1 a1 w1 ha1 g1 => hQ _ _ _ _ ha1 g1)⟩
    all_goals first | ((repeat' split at he) <;> cases he; done) | (rename_i dr; cases dr <;> simp only [comp] at he <;> (repeat' split at he) <;> cases he)
  | .cond mcnd ma mb, c, he, hf => by
    cases c <;> simp only [MC.bare, comp] at he <;> first | (cases he; done) | skip
    case cond cc ca cb =>
      simp only [MC.fits, Bool.and_eq_true] at hf
      split at he
      · rename_i c0 hc0
        injection he with h0 h1 h2
        subst h0
        intro π s x s' h
        simp only [evC] at h
        split at h
        · rename_i hv
          obtain ⟨hk, hw⟩ := evC_walks hC hS hD d ma ca h1 hf.1 π s x s' h
          refine ⟨hk, fun ρ old w a g hst Q hQ => wp_cond_true ?_ (hw ρ old w a g hst Q hQ)⟩
          have := opd_rel g.env hc0
          rw [hv] at this
          simpa only [RelV] using this
        · rename_i hv
          obtain ⟨hk, hw⟩ := evC_walks hC hS hD d mb cb h2 hf.2 π s x s' h
          refine ⟨hk, fun ρ old w a g hst Q hQ => wp_cond_false ?_ (hw ρ old w a g hst Q hQ)⟩
          have := opd_rel g.env hc0
          rw [hv] at this
          simpa only [RelV] using this
        · cases h
      · cases he
    all_goals first | ((repeat' split at he) <;> cases he; done) | (rename_i dr; cases dr <;> simp only [comp] at he <;> (repeat' split at he) <;> cases he)
  | .block id mb, c, he, hf => by
    cases c <;> simp only [MC.bare, comp] at he <;> first | (cases he; done) | skip
    case block id' cb =>
      simp only [MC.fits] at hf
      injection he with h0 h1
      subst h0
      intro π s x s' h
      simp only [evC] at h
      cases hb : evC PP C d mb π s with
      | none => rw [hb] at h; cases h
      | some y =>
        obtain ⟨y, s1⟩ := y
        obtain ⟨hk, hw⟩ := evC_walks hC hS hD d mb cb h1 hf π s y s1 hb
        rw [hb] at h
        cases y with
        | nrm =>
          simp only at h; cases h
          exact ⟨hk, fun ρ old w a g hst Q hQ => wp_block (hw ρ old w a g hst _ fun ρ1 old1 a1 w1 ha1 g1 => hQ _ _ _ _ ha1 g1)⟩
        | ret =>
          simp only at h; cases h
          exact ⟨hk, fun ρ old w a g hst Q hQ => wp_block (hw ρ old w a g hst _ fun ρ1 old1 a1 w1 ha1 g1 => hQ _ _ _ _ ha1 g1)⟩
        | exit i =>
          simp only at h
          by_cases hi : i = id
          · rw [if_pos hi] at h
            cases h
            refine ⟨hk, fun ρ old w a g hst Q hQ => wp_block (hw ρ old w a g hst _ fun ρ1 old1 a1 w1 ha1 g1 => ?_)⟩
            show (if i = id then Q .normal a1 w1 else Q (.exit i) a1 w1)
            rw [if_pos hi]
            exact hQ _ _ _ _ ha1 g1
          · rw [if_neg hi] at h
            cases h
            refine ⟨hk, fun ρ old w a g hst Q hQ => wp_block (hw ρ old w a g hst _ fun ρ1 old1 a1 w1 ha1 g1 => ?_)⟩
            show (if i = id then Q .normal a1 w1 else Q (.exit i) a1 w1)
            rw [if_neg hi]
            exact hQ _ _ _ _ ha1 g1
    all_goals first | ((repeat' split at he) <;> cases he; done) | (rename_i dr; cases dr <;> simp only [comp] at he <;> (repeat' split at he) <;> cases he)
  | .loop live mb, c, he, hf => by
    cases c <;> simp only [MC.bare, comp] at he <;> first | (cases he; done) | skip
    case loop cb =>
      simp only [MC.fits] at hf
      injection he with _ h1
      intro π s x s' h
      simp only [evC] at h
      cases hl : evLoop (evC PP C d mb) d live (s.k :: π) PP.L 0 s with
      | none => rw [hl] at h; cases h
      | some y =>
        obtain ⟨y, s1⟩ := y
        rw [hl] at h
        simp only at h
        cases h
        refine ⟨Nat.le_succ _, fun ρ old w a g hst Q hQ => wp_loop_rounds PP.L ?_⟩
        refine loop_walks (evC_walks hC hS hD d mb cb h1 hf) live π s.k PP.L 0 s _ _ hl ρ old w a g ?_ Q ?_
        · intro q hq τ i _ e
          exact hst q hq (τ ++ [i]) s.k (Nat.le_refl _) (by rw [e]; simp)
        · intro ρ1 old1 a1 w1 ha1 g1
          exact hQ _ _ _ _ ⟨ha1.keep, ha1.below, fun q hq => (ha1.news q hq).imp id fun ⟨τ, e⟩ => ⟨τ, s.k, e, Nat.le_refl _, Nat.lt_succ_self _⟩, ha1.av, ha1.fr⟩ g1
    all_goals first | ((repeat' split at he) <;> cases he; done) | (rename_i dr; cases dr <;> simp only [comp] at he <;> (repeat' split at he) <;> cases he)
  | .exit i, c, he, hf => by
    intro π s x s' h
    simp only [evC] at h
    cases h
    refine ⟨Nat.le_refl _, fun ρ old w a g hst Q hQ => ?_⟩
    cases c <;> simp only [MC.bare, comp] at he <;> first | (cases he; done) | skip
    case exit => cases he; exact wp_exit (hQ _ _ _ _ After.refl g)
    all_goals first | ((repeat' split at he) <;> cases he; done) | (rename_i dr; cases dr <;> simp only [comp] at he <;> (repeat' split at he) <;> cases he)
  | .ret, c, he, hf => by
    intro π s x s' h
    simp only [evC] at h
    cases h
    refine ⟨Nat.le_refl _, fun ρ old w a g hst Q hQ => ?_⟩
    cases c <;> simp only [MC.bare, comp] at he <;> first | (cases he; done) | skip
    case ret => exact wp_ret (hQ _ _ _ _ After.refl g)
    all_goals first | ((repeat' split at he) <;> cases he; done) | (rename_i dr; cases dr <;> simp only [comp] at he <;> (repeat' split at he) <;> cases he)
end
end Go.Proofs.Ytnccnmeecngopaa.Fw
