/- The abstract evaluator, part P: a whole operation, and operations in their order. -/
import Derived.Test.YtnccnmeecngopaaFwO
set_option linter.unusedVariables false
set_option linter.unusedSimpArgs false
set_option linter.unnecessarySimpa false
namespace Go.Proofs.Ytnccnmeecngopaa.Fw
open Go Go.RowKit

structure Good (D n B : Nat) (ρ : Map) (old : List Nat → Prop) (w : World) (e : Env) (H : Heap) (a : Act) : Prop where
  env : ERel ρ old w e a.tmps
  heap : HRel B ρ old w H
  base : B ≤ w.heap.size
  size : n ≤ a.tmps.size
  defers : a.defers = []
  low : Low D H

structure After (D B : Nat) (H : Heap) (ρ : Map) (old : List Nat → Prop) (w : World) (S : List Nat → Prop) (H' : Heap) (ρ' : Map) (old' : List Nat → Prop) (w' : World) : Prop where
  keep : Keep ρ ρ' old old' w w'
  below : Below B w w'
  news : ∀ q, old' q → old q ∨ S q
  av : ρ'.av = ρ.av
  fr : Fr D H ρ w H' ρ' w'

theorem After.refl {D B : Nat} {H : Heap} {ρ : Map} {old S : List Nat → Prop} {w : World} : After D B H ρ old w S H ρ old w :=
  ⟨⟨fun b _ h => ⟨rfl, h⟩, fun _ _ _ _ e _ => e, fun _ h => h, fun _ _ _ _ _ _ => rfl⟩, Below.refl _ _, fun _ h => .inl h, rfl, fun _ _ h => ⟨h, rfl, fun _ _ _ _ => rfl⟩⟩

theorem After.trans {D B : Nat} {H1 H2 H3 : Heap} {ρ1 ρ2 ρ3 : Map} {o1 o2 o3 S T U : List Nat → Prop} {w1 w2 w3 : World} (h : After D B H1 ρ1 o1 w1 S H2 ρ2 o2 w2) (k : After D B H2 ρ2 o2 w2 T H3 ρ3 o3 w3)
    (hS : ∀ q, S q → U q) (hT : ∀ q, T q → U q) : After D B H1 ρ1 o1 w1 U H3 ρ3 o3 w3 :=
  ⟨h.keep.trans k.keep h.below.size, h.below.trans k.below, fun q hq => by
    rcases k.news q hq with q1 | q1
    · rcases h.news q q1 with q2 | q2
      · exact .inl q2
      · exact .inr (hS q q2)
    · exact .inr (hT q q1), k.av.trans h.av, h.fr.trans k.fr (Nat.le_refl _)⟩

theorem Good.put {D n B : Nat} {ρ ρ' : Map} {old old' : List Nat → Prop} {w w' : World} {e : Env} {H H' : Heap} {a : Act} (g : Good D n B ρ old w e H a) (k : Keep ρ ρ' old old' w w') (hb : Below B w w')
    (hH : HRel B ρ' old' w' H') (hl : Low D H') {dst : Option Nat} {v : AV} {u : Value} (hd : ∀ t, dst = some t → t < n) (hv : RelV ρ' old' w' v u) : Good D n B ρ' old' w' (putD e dst v) H' (a.put dst u) := by
  refine ⟨?_, hH, Nat.le_trans g.base hb.size, ?_, ?_, hl⟩
  · cases dst with
    | none => exact fun t => RelV.mono k _ _ (g.env t)
    | some d =>
      intro t
      have hlt : d < a.tmps.size := Nat.lt_of_lt_of_le (hd d rfl) g.size
      simp only [putD, Env.get, Act.put]
      by_cases h : d = t
      · subst h
        rw [if_pos rfl]
        simpa [Array.getD, hlt] using hv
      · rw [if_neg h]
        have := RelV.mono k _ _ (g.env t)
        simpa [Array.getElem?_setIfInBounds_ne h] using this
  · cases dst with
    | none => exact g.size
    | some d => simpa [Act.put] using g.size
  · cases dst with
    | none => exact g.defers
    | some d => exact g.defers

theorem opSem_low {d t : Nat} {st : List Nat} {m : MOp} {e : Env} {H H' : Heap} {v : AV} (h : opSem ⟨d, t, 0⟩ st m e H = some (v, H')) (hl : Low d H) : Low d H' := by
  have old : ∀ {s st' b} (c : Blk), H.row s st' = some b → Low d (H.set s c) := by
    intro s st' b c hb
    unfold Heap.row at hb
    split at hb
    · rename_i b' hg
      exact hl.set (hl s b' hg) c
    · cases hb
  have new : ∀ c : Blk, Low d (H.set ⟨d, t, 0⟩ c) := fun c => hl.set (Nat.le_refl d) c
  cases m <;> simp only [opSem] at h
  all_goals (repeat' split at h)
  all_goals first
    | (cases h; done)
    | (cases h; exact hl)
    | (cases h; exact new _)
    | (cases h; rename_i hb _ _ _; exact old _ hb)
    | (rw [Option.map_eq_some_iff] at h; obtain ⟨_, _, h⟩ := h; cases h; exact hl)
    | (cases h; exact old _ (by assumption))

theorem thawC_low {d t : Nat} {st : List Nat} {j : Nat} {H : Heap} {x : AV} (h : Low d H) : Low d (thawC d t st j H x).2.2 := by
  unfold thawC
  split
  · exact h.set (Nat.le_refl d) _
  · exact h.set (Nat.le_refl d) _
  · exact h
theorem thawL_low {d : Nat} {f : Nat → Heap → AV → AV × Nat × Heap} (hf : ∀ j H x, Low d H → Low d (f j H x).2.2) : ∀ (l : List AV) (j : Nat) (H : Heap), Low d H → Low d (thawL f j H l).2.2
  | [], _, _, h => h
  | x :: r, j, H, h => by
    have h1 := hf j H x h
    simp only [thawL]
    cases hx : f j H x with
    | mk y s =>
      obtain ⟨j1, H1⟩ := s
      rw [hx] at h1
      have h2 := thawL_low hf r j1 H1 h1
      simp only
      exact h2
theorem thawA_low {d t : Nat} {st : List Nat} {j : Nat} {H : Heap} {x : AV} (h : Low d H) : Low d (thawA d t st j H x).2.2 := by
  unfold thawA
  split
  · exact thawL_low (fun _ _ _ h => thawC_low h) _ _ _ h
  · exact thawC_low h
theorem thawT_low {d t : Nat} {st : List Nat} {H : Heap} {x : AV} (h : Low d H) : Low d (thawT d t st H x).2 := by
  unfold thawT
  split
  · exact thawL_low (fun _ _ _ h => thawA_low h) _ _ _ h
  · exact thawA_low h

theorem callIn_low {PP : Prog} {C : Caller} {inl : Bool} {d t : Nat} {st : List Nat} {f : FuncId} {args : List AV} {H H' : Heap} {v : AV} (h : callIn PP C inl d t st f args H = some (v, H')) (hl : Low d H) : Low d H' := by
  unfold callIn at h
  split at h
  · split at h
    · cases h
    · split at h
      · cases h
      · split at h
        · have := congrArg Prod.snd (Option.some.inj h)
          show Low d (v, H').2
          rw [← this]
          exact thawT_low hl
        · cases h
  · split at h
    · split at h
      · cases h
      · split at h <;> first | (cases h; done) | skip
        split at h <;> first | (cases h; done) | skip
        split at h <;> first | (cases h; done) | skip
        split at h <;> first | (cases h; done) | skip
        rename_i Ht hp
        have hl1 := putBack_low hp (cutH_low hl) hl
        have := congrArg Prod.snd (Option.some.inj h)
        show Low d (v, H').2
        rw [← this]
        exact thawT_low hl1
    · split at h
      · cases h
      · split at h
        · cases h
        · split at h <;> first | (cases h; done) | skip
          split at h <;> first | (cases h; done) | skip
          have := congrArg Prod.snd (Option.some.inj h)
          show Low d (v, H').2
          rw [← this]
          exact thawT_low hl

theorem stepOp_low {PP : Prog} {C : Caller} {d : Nat} {st : List Nat} {o : MO} {e : Env} {H H' : Heap} {v : AV} (h : stepOp PP C d st o e H = some (v, H')) (hl : Low d H) : Low d H' := by
  unfold stepOp at h
  split at h
  · exact callIn_low h hl
  · split at h
    · exact callIn_low h hl
    · cases h
  · exact opSem_low h hl

def isCall : MOp → Bool
  | .call .. | .callv .. => true
  | _ => false
theorem compBi_noCall {P : Program} {b : Builtin} {ts : Array TypeId} {xs : List Opd} {m : MOp} (h : compBi P b ts xs = some m) : isCall m = false := by
  rcases compBi_cases h with ⟨k, rfl, _⟩ | rfl
  · rfl
  · simp only [compBi] at h
    repeat' split at h
    all_goals first | (cases h; rfl) | (cases h; done)
theorem compOp_isCall {P : Program} {op : Op} {m : MOp} (h : compOp P op = some m) (hc : isCall m = true) :
    ∃ c xs, op = .call c ∧ opds c.args.toList = some xs ∧ ((∃ f, m = .call f xs ∧ c.callee = .value (.func f)) ∨ (∃ t, m = .callv (.t t) xs ∧ c.callee = .value (.tmp t))) := by
  cases op with
  | call c =>
    obtain ⟨callee, args, ts⟩ := c
    simp only [compOp] at h
    split at h <;> first | (cases h; done) | skip
    rename_i xs hxs
    refine ⟨_, xs, rfl, hxs, ?_⟩
    split at h
    · rw [compBi_noCall h] at hc; cases hc
    · split at h <;> first | (cases h; done) | skip
      split at h <;> first | (cases h; done) | skip
      split at h
      · rw [Option.map_eq_some_iff] at h; obtain ⟨_, _, rfl⟩ := h; cases hc
      · cases h; exact .inl ⟨_, rfl, rfl⟩
    · cases h; exact .inr ⟨_, rfl, rfl⟩
    · cases h
  | makeFunc f xs ys =>
    exfalso
    cases f <;> simp only [compOp] at h <;> first | (cases h; done) | skip
    repeat' split at h
    all_goals first | (cases h; done) | (cases h; cases hc; done)
  | _ =>
    exfalso
    simp only [compOp] at h
    repeat' split at h
    all_goals first | (cases h; done) | (cases h; cases hc; done) | (rw [Option.map_eq_some_iff] at h; obtain ⟨_, _, rfl⟩ := h; cases hc; done)

theorem RelL.append {ρ : Map} {old : List Nat → Prop} {w : World} : ∀ {a b : List AV} {x y : List Value}, RelL ρ old w a x → RelL ρ old w b y → RelL ρ old w (a ++ b) (x ++ y)
  | [], b, [], y, _, h => h
  | a :: r, b, x :: s, y, h, k => by
    simp only [RelL, List.cons_append] at h ⊢
    exact ⟨h.1, RelL.append h.2 k⟩
  | [], _, _ :: _, _, h, _ => by simp only [RelL] at h
  | _ :: _, _, [], _, h, _ => by simp only [RelL] at h

theorem run_call {P : Program} {o : Oper} {c : Call} {ρe : Operand → Value} {w : World} {x : Operand} {f : FuncId} {a b : Array Value} (hop : o.op = .call c) (hc : c.callee = .value x) (hx : ρe x = .func (.func f) a b) (hf : FnIs P f) :
    (execOp ρe o).run P w = .ok (.enter f (a ++ c.args.map ρe ++ b)) w := by
  obtain ⟨fn, h1, h2, h3⟩ := hf
  have h3' : fn.body.isNone = false := by cases hb : fn.body <;> simp [hb] at h3 ⊢
  simp only [execOp, hop, resolve, hc, hx, Deferred.ofValue, Sem.run_bind, Sem.run_pure, Result.andThen_ok, invoke, callFunc, program, Sem.run, h1]
  simp [h2, h3', Sem.run]

section
variable {P : Program} {PP : Prog} {C : Caller} {d n B : Nat} {ρ : Map} {old : List Nat → Prop} {w : World} {st : List Nat} {e : Env} {H H' : Heap} {v : AV} {a : Act} {o : Oper} {m : MOp}

theorem step_wp (hC : CallerOk P C) (hS : SpecOk P PP) {mo : MO} (hm : compOp P o.op = some mo.op) (hdst : mo.dst = o.dst) (h : stepOp PP C d st mo e H = some (v, H')) (g : Good d n B ρ old w e H a)
    (hst : ∀ q, old q → ∀ τ, q ≠ τ ++ st) (hd : ∀ t, o.dst = some t → t < n) {K : Act → World → Prop} {Q : Exit → Act → World → Prop}
    (hK : ∀ ρ' old' u w', After d B H ρ old w (fun q => ∃ τ, q = τ ++ st) H' ρ' old' w' → Good d n B ρ' old' w' (putD e o.dst v) H' (a.put o.dst u) → RelV ρ' old' w' v u → K (a.put o.dst u) w') : o.wp P a w K Q := by
  have hlow := stepOp_low h g.low
  have calls : ∀ (f : FuncId) (cargs : Array Value), Calls P f cargs w (CallPost d B H ρ old w v H' fun q => ∃ τ, q = τ ++ st) → o.upon P a K Q (.ok (.enter f cargs) w) := by
    intro f cargs hc
    refine Calls.mono hc ?_
    rintro e' w' ⟨u, ρ', old', rfl, k, hu, hH, hb, hs, hav, hfr⟩
    exact hK ρ' old' u w' ⟨k, hb, hs, hav, hfr⟩ (g.put k hb hH hlow hd hu) hu
  unfold Oper.wp
  cases hcall : isCall mo.op with
  | true =>
    obtain ⟨c, xs, hop, hxs, hc⟩ := compOp_isCall hm hcall
    have hargs := opds_rel g.env hxs
    have hargs' : RelL ρ old w (Opd.evs e xs) (c.args.map a.eval).toList := by simpa using hargs
    unfold stepOp at h
    rcases hc with ⟨f, hmo, hcal⟩ | ⟨t, hmo, hcal⟩
    · simp only [hmo] at h
      obtain ⟨hf, hcl⟩ := callIn_ok hC hS h g.low hargs' g.heap g.base hst
      rw [run_call hop hcal (ρe := a.eval) (a := #[]) (b := #[]) rfl hf]
      simpa using calls f _ hcl
    · simp only [hmo] at h
      split at h <;> first | (cases h; done) | skip
      rename_i f xa xb hx
      have hx' : RelV ρ old w (.fn (.func f) xa xb) (a.eval (.tmp t)) := by rw [← hx]; exact g.env t
      simp only [RelV] at hx'
      obtain ⟨a', b', e1, e2, e3⟩ := hx'
      obtain ⟨hf, hcl⟩ := callIn_ok hC hS h g.low (cargs := a' ++ c.args.map a.eval ++ b') (by simpa using (e2.append hargs').append e3) g.heap g.base hst
      rw [run_call hop hcal (ρe := a.eval) e1 hf]
      exact calls f _ hcl
  | false =>
    have h2 : opSem ⟨d, mo.dst.getD 0, 0⟩ st mo.op e H = some (v, H') := by
      unfold stepOp at h
      split at h
      · rename_i hq; rw [hq] at hcall; cases hcall
      · rename_i hq; rw [hq] at hcall; cases hcall
      · exact h
    obtain ⟨r, u, w', ρ', old', hrun, hr, k, hu, hH, hb, hs, hav, hfr⟩ := opSem_does hm h2 g.env g.heap g.base (fun ho => hst _ ho [] rfl)
    rw [hrun]
    have haf : After d B H ρ old w (fun q => ∃ τ, q = τ ++ st) H' ρ' old' w' := ⟨k, hb, fun q hq => (hs q hq).imp id fun e => ⟨[], e⟩, hav, hfr⟩
    rcases hr with rfl | ⟨rfl, rfl⟩
    · exact hK ρ' old' u w' haf (g.put k hb hH hlow hd hu) hu
    · exact hK ρ' old' undef w' haf (g.put k hb hH hlow hd hu) hu

/-- an operation that does not take part -/
theorem skip_good (g : Good d n B ρ old w e H a) (hd : ∀ t, o.dst = some t → t < n) : Good d n B ρ old w (putD e o.dst (.v undef)) H (a.put o.dst undef) :=
  g.put ⟨fun b _ h => ⟨rfl, h⟩, fun _ _ _ _ e _ => e, fun _ h => h, fun _ _ _ _ _ _ => rfl⟩ (Below.refl _ _) g.heap g.low hd (by simp only [RelV])

theorem wanted_of {ops : Array Oper} {g : Option (Nat × Bool)} {b : Bool} (hE : ERel ρ old w e a.tmps) (hg : compGuard ops o.guard = some g) (h : guardOf e g = some b) : Region.wanted o (yielded ops a.tmps) = b := by
  unfold Region.wanted
  cases hq : o.guard with
  | none =>
    rw [hq] at hg; simp only [compGuard] at hg; cases hg
    simp only [guardOf] at h; cases h; rfl
  | some jw =>
    obtain ⟨j, want⟩ := jw
    rw [hq] at hg
    simp only [compGuard] at hg
    split at hg
    · cases hg
    · rename_i oj hj
      rw [Option.map_eq_some_iff] at hg
      obtain ⟨t, ht, rfl⟩ := hg
      simp only [guardOf] at h
      have hr := hE t
      have hy : yielded ops a.tmps j = match a.tmps[t]? with | some (.bool b) => some b | _ => none := by
        unfold yielded
        rw [hj]
        simp only [Option.bind_some, ht]
        cases a.tmps[t]? with
        | none => rfl
        | some y => cases y <;> rfl
      simp only [hy]
      split at h
      · rename_i b0 hb
        cases h
        rw [hb] at hr
        simp only [RelV] at hr
        have : a.tmps[t]? = some (.bool b0) := by
          cases hx : a.tmps[t]? with
          | none => simp [Array.getD_eq_getD_getElem?, hx, undef] at hr
          | some y => simp [Array.getD_eq_getD_getElem?, hx] at hr; rw [hr]
        rw [this]
        cases b0 <;> cases want <;> rfl
      · rename_i vs hb
        cases h
        rw [hb] at hr
        simp only [RelV] at hr
        cases hx : a.tmps[t]? with
        | none => rfl
        | some y => simp [Array.getD_eq_getD_getElem?, hx] at hr; rw [hr]; rfl
      · cases h

theorem compOper_dst {ops : Array Oper} {pre : List Nat} : (compOper P ops o pre).dst = o.dst := by
  unfold compOper; split <;> rfl

theorem evOps_k {d : Nat} {π : List Nat} : ∀ (l : List MO) (s s' : St), evOps PP C d π l s = some s' → s.k ≤ s'.k
  | [], s, s', h => by simp only [evOps] at h; cases h; exact Nat.le_refl _
  | o :: r, s, s', h => by
    simp only [evOps] at h
    split at h
    · cases h
    · have := evOps_k r _ _ h; simp only at this; omega
    · split at h
      · cases h
      · have := evOps_k r _ _ h; simp only at this; omega

theorem stamp_same {τ τ' π : List Nat} {m m' : Nat} (h : τ ++ m :: π = τ' ++ m' :: π) : m = m' := by
  have hl := congrArg List.length h
  simp at hl
  have := (List.append_inj h hl).2
  simp at this
  exact this

theorem evOps_wp (hC : CallerOk P C) (hS : SpecOk P PP) {ops : Array Oper} {π : List Nat} {Q : Exit → Act → World → Prop} : ∀ (l : List Oper) (ps : List (List Nat)) (s s' : St) {ρ : Map} {old : List Nat → Prop} {w : World} {a : Act},
    evOps PP C d π (compOps P ops l ps) s = some s' → dstsOk n (compOps P ops l ps) = true → Good d n B ρ old w s.env s.H a → (∀ q, old q → ∀ τ m, s.k ≤ m → q ≠ τ ++ m :: π) →
    (∀ ρ' old' a' w', After d B s.H ρ old w (fun q => ∃ τ m, q = τ ++ m :: π ∧ s.k ≤ m ∧ m < s'.k) s'.H ρ' old' w' → Good d n B ρ' old' w' s'.env s'.H a' → Q .normal a' w') → wpList P ops Q l a w
  | [], ps, s, s', ρ, old, w, a, h, hd, g, hst, hQ => by
    simp only [compOps, evOps] at h
    cases h
    exact hQ _ _ _ _ After.refl g
  | o :: r, ps, s, s', ρ, old, w, a, h, hd, g, hst, hQ => by
    simp only [compOps, evOps] at h
    simp only [compOps, dstsOk, Bool.and_eq_true] at hd
    have hd1 : ∀ t, o.dst = some t → t < n := by
      intro t ht
      have := hd.1
      rw [compOper_dst, ht] at this
      simpa using this
    have hbad : compOper P ops o (ps.headD []) = ⟨o.dst, .bad, none, ps.headD []⟩ → False := by
      intro hb
      rw [hb] at h
      simp only [guardOf, stepOp, opSem] at h
      cases h
    cases e1 : compOp P o.op with
    | none => exact (hbad (by simp [compOper, e1])).elim
    | some m =>
    cases e2 : compGuard ops o.guard with
    | none => exact (hbad (by simp [compOper, e1, e2])).elim
    | some gd =>
      have e3 : compOper P ops o (ps.headD []) = ⟨o.dst, m, gd, ps.headD []⟩ := by simp [compOper, e1, e2]
      rw [e3] at h
      simp only at h
      cases hg : guardOf s.env gd with
      | none => rw [hg] at h; cases h
      | some b =>
        rw [hg] at h
        have hw := wanted_of g.env e2 hg
        unfold wpList
        rw [hw]
        cases b with
        | false =>
          simp only at h
          exact evOps_wp hC hS (Q := Q) r ps.tail ⟨putD s.env o.dst (.v undef), s.H, s.k + 1⟩ s' h hd.2 (skip_good g hd1) (fun q hq τ m hm => hst q hq τ m (by simp only at hm; omega)) (fun ρ' old' a' w' ha g' =>
            hQ ρ' old' a' w' ⟨ha.keep, ha.below, fun q hq => (ha.news q hq).imp id fun ⟨τ, m, e, m1, m2⟩ => ⟨τ, m, e, by simp only at m1; omega, m2⟩, ha.av, ha.fr⟩ g')
        | true =>
          simp only at h
          cases hs : stepOp PP C d (s.k :: π) ⟨o.dst, m, gd, ps.headD []⟩ s.env s.H with
          | none => rw [hs] at h; cases h
          | some vh =>
            obtain ⟨v, H1⟩ := vh
            rw [hs] at h
            simp only at h
            have hk := evOps_k _ _ _ h
            simp only at hk
            rw [if_pos rfl]
            refine .inl (step_wp hC hS (mo := ⟨o.dst, m, gd, ps.headD []⟩) e1 rfl hs g (fun q hq τ => hst q hq τ s.k (Nat.le_refl _)) hd1 ?_)
            intro ρ1 old1 u w1 ha1 g1 _
            have hfresh : ∀ q, old1 q → ∀ τ m, s.k + 1 ≤ m → q ≠ τ ++ m :: π := by
              intro q hq τ m hm he
              rcases ha1.news q hq with h1 | ⟨τ', h1⟩
              · exact hst q h1 τ m (by omega) he
              · rw [he] at h1
                have := stamp_same h1
                omega
            refine evOps_wp hC hS (Q := Q) r ps.tail ⟨putD s.env o.dst v, H1, s.k + 1⟩ s' h hd.2 g1 hfresh (fun ρ' old' a' w' ha g' => ?_)
            exact hQ ρ' old' a' w' (ha1.trans ha (fun q ⟨τ, e⟩ => ⟨τ, s.k, e, Nat.le_refl _, by omega⟩) fun q ⟨τ, m, e, m1, m2⟩ => ⟨τ, m, e, by simp only at m1; omega, m2⟩) g'
end
end Go.Proofs.Ytnccnmeecngopaa.Fw
