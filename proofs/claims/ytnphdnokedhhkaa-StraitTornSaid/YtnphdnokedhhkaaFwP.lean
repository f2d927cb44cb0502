/- The abstract evaluator, part P: a whole operation, and operations in their order. | The abstract evaluator, part Q: statements, loops, bodies. | The abstract evaluator, part R: whole functions. | The abstract evaluator, part S: what an operation minds of its surroundings. | The abstract evaluator, part T: what a whole operation, calls among them, minds of its surroundings. | The abstract evaluator, part U: operations in no set order, whatever order they take. | The abstract evaluator, part V: whatever order the operations take, the same comes of it. -/
import Derived.Test.YtnphdnokedhhkaaFwL
import Derived.Scope
set_option linter.unusedVariables false
set_option linter.unusedSimpArgs false
set_option linter.unnecessarySimpa false
namespace Go.Proofs.Ytnphdnokedhhkaa.Fw
open Go Go.RowKit

structure Good (D n B : Nat) (ρ : Map) (old : List Nat → Prop) (w : World) (e : Env) (H : Heap) (a : Act) : Prop where
  env : ERel ρ old w e a.tmps
  heap : HRel B ρ old w H
  base : B ≤ w.heap.size
  size : n ≤ a.tmps.size
  defers : a.defers = []
  low : Low D H

structure After (D B : Nat) (H : Heap) (ρ : Map) (old : List Nat → Prop) (w : World) (S : List Nat → Prop) (H' : Heap) (ρ' : Map) (old' : List Nat → Prop) (w' : World) : Prop where
  keep : Keep ρ ρ' old old' w w'
  below : Below B w w'
  news : ∀ q, old' q → old q ∨ S q
  av : ρ'.av = ρ.av
  fr : Fr D H ρ w H' ρ' w'

theorem After.refl {D B : Nat} {H : Heap} {ρ : Map} {old S : List Nat → Prop} {w : World} : After D B H ρ old w S H ρ old w :=
  ⟨⟨fun b _ h => ⟨rfl, h⟩, fun _ _ _ _ e _ => e, fun _ h => h, fun _ _ _ _ _ _ => rfl, fun _ _ _ => Iff.rfl⟩, Below.refl _ _, fun _ h => .inl h, rfl, fun _ _ h => ⟨h, rfl, fun _ _ _ _ => rfl⟩⟩

theorem After.trans {D B : Nat} {H1 H2 H3 : Heap} {ρ1 ρ2 ρ3 : Map} {o1 o2 o3 S T U : List Nat → Prop} {w1 w2 w3 : World} (h : After D B H1 ρ1 o1 w1 S H2 ρ2 o2 w2) (k : After D B H2 ρ2 o2 w2 T H3 ρ3 o3 w3)
    (hS : ∀ q, S q → U q) (hT : ∀ q, T q → U q) : After D B H1 ρ1 o1 w1 U H3 ρ3 o3 w3 :=
  ⟨h.keep.trans k.keep h.below.size, h.below.trans k.below, fun q hq => by
    rcases k.news q hq with q1 | q1
    · rcases h.news q q1 with q2 | q2
      · exact .inl q2
      · exact .inr (hS q q2)
    · exact .inr (hT q q1), k.av.trans h.av, h.fr.trans k.fr (Nat.le_refl _)⟩

theorem Good.put {D n B : Nat} {ρ ρ' : Map} {old old' : List Nat → Prop} {w w' : World} {e : Env} {H H' : Heap} {a : Act} (g : Good D n B ρ old w e H a) (k : Keep ρ ρ' old old' w w') (hb : Below B w w')
    (hH : HRel B ρ' old' w' H') (hl : Low D H') {dst : Option Nat} {v : AV} {u : Value} (hd : ∀ t, dst = some t → t < n) (hv : RelV ρ' old' w' v u) : Good D n B ρ' old' w' (putD e dst v) H' (a.put dst u) := by
  refine ⟨?_, hH, Nat.le_trans g.base hb.size, ?_, ?_, hl⟩
  · cases dst with
    | none => exact fun t => RelV.mono k _ _ (g.env t)
    | some d =>
      intro t
      have hlt : d < a.tmps.size := Nat.lt_of_lt_of_le (hd d rfl) g.size
      simp only [putD, Env.get, Act.put]
      by_cases h : d = t
      · subst h
        rw [if_pos rfl]
        simpa [Array.getD, hlt] using hv
      · rw [if_neg h]
        have := RelV.mono k _ _ (g.env t)
        simpa [Array.getElem?_setIfInBounds_ne h] using this
  · cases dst with
    | none => exact g.size
    | some d => simpa [Act.put] using g.size
  · cases dst with
    | none => exact g.defers
    | some d => exact g.defers

theorem opSem_low {d t q : Nat} {st : List Nat} {m : MOp} {e : Env} {H H' : Heap} {v : AV} (h : opSem ⟨d, t, q⟩ st m e H = some (v, H')) (hl : Low d H) : Low d H' := by
  have old : ∀ {s st' b} (c : Blk), H.row s st' = some b → Low d (H.set s c) := by
    intro s st' b c hb
    unfold Heap.row at hb
    split at hb
    · rename_i b' hg
      exact hl.set (hl s b' hg) c
    · cases hb
  have new : ∀ c : Blk, Low d (H.set ⟨d, t, q⟩ c) := fun c => hl.set (Nat.le_refl d) c
  cases m <;> simp only [opSem] at h
  all_goals (repeat' split at h)
  all_goals first
    | (cases h; done)
    | (cases h; exact hl)
    | (cases h; exact new _)
    | (cases h; rename_i hb _ _ _; exact old _ hb)
    | (rw [Option.map_eq_some_iff] at h; obtain ⟨_, _, h⟩ := h; cases h; exact hl)
    | (cases h; exact old _ (by assumption))

theorem thawC_low {d t : Nat} {st : List Nat} {j : Nat} {H : Heap} {x : AV} (h : Low d H) : Low d (thawC d t st j H x).2.2 := by
  unfold thawC
  split
  · exact h.set (Nat.le_refl d) _
  · exact h.set (Nat.le_refl d) _
  · exact h
theorem thawL_low {d : Nat} {f : Nat → Heap → AV → AV × Nat × Heap} (hf : ∀ j H x, Low d H → Low d (f j H x).2.2) : ∀ (l : List AV) (j : Nat) (H : Heap), Low d H → Low d (thawL f j H l).2.2
  | [], _, _, h => h
  | x :: r, j, H, h => by
    have h1 := hf j H x h
    simp only [thawL]
    cases hx : f j H x with
    | mk y s =>
      obtain ⟨j1, H1⟩ := s
      rw [hx] at h1
      have h2 := thawL_low hf r j1 H1 h1
      simp only
      exact h2
theorem thawA_low {d t : Nat} {st : List Nat} {j : Nat} {H : Heap} {x : AV} (h : Low d H) : Low d (thawA d t st j H x).2.2 := by
  unfold thawA
  split
  · exact thawL_low (fun _ _ _ h => thawC_low h) _ _ _ h
  · exact thawC_low h
theorem thawT_low {d t : Nat} {st : List Nat} {H : Heap} {x : AV} (h : Low d H) : Low d (thawT d t st H x).2 := by
  unfold thawT
  split
  · exact thawL_low (fun _ _ _ h => thawA_low h) _ _ _ h
  · exact thawA_low h

theorem callIn_low {PP : Prog} {C : Caller} {inl : Bool} {d t : Nat} {st : List Nat} {f : FuncId} {args : List AV} {H H' : Heap} {v : AV} (h : callIn PP C inl d t st f args H = some (v, H')) (hl : Low d H) : Low d H' := by
  unfold callIn at h
  split at h
  · split at h
    · cases h
    · split at h
      · cases h
      · split at h
        · have := congrArg Prod.snd (Option.some.inj h)
          show Low d (v, H').2
          rw [← this]
          exact thawT_low hl
        · cases h
  · split at h
    · split at h
      · cases h
      · split at h <;> first | (cases h; done) | skip
        split at h <;> first | (cases h; done) | skip
        split at h <;> first | (cases h; done) | skip
        split at h <;> first | (cases h; done) | skip
        rename_i Ht hp
        have hl1 := putBack_low hp (cutH_low hl) hl
        have := congrArg Prod.snd (Option.some.inj h)
        show Low d (v, H').2
        rw [← this]
        exact thawT_low hl1
    · split at h
      · cases h
      · split at h
        · cases h
        · split at h <;> first | (cases h; done) | skip
          split at h <;> first | (cases h; done) | skip
          have := congrArg Prod.snd (Option.some.inj h)
          show Low d (v, H').2
          rw [← this]
          exact thawT_low hl

theorem stepOp_low {PP : Prog} {C : Caller} {d : Nat} {st : List Nat} {o : MO} {e : Env} {H H' : Heap} {v : AV} (h : stepOp PP C d st o e H = some (v, H')) (hl : Low d H) : Low d H' := by
  unfold stepOp at h
  split at h
  · exact callIn_low h hl
  · split at h
    · exact callIn_low h hl
    · cases h
  · exact opSem_low h hl
  · exact opSem_low h hl

def isCall : MOp → Bool
  | .call .. | .callv .. => true
  | _ => false
theorem compBi_noCall {P : Program} {b : Builtin} {ts : Array TypeId} {xs : List Opd} {m : MOp} (h : compBi P b ts xs = some m) : isCall m = false := by
  rcases compBi_cases h with ⟨k, rfl, _⟩ | rfl | rfl
  · rfl
  all_goals
    simp only [compBi] at h
    repeat' split at h
    all_goals first | (cases h; rfl) | (cases h; done)
theorem compOp_isCall {P : Program} {op : Op} {m : MOp} (h : compOp P op = some m) (hc : isCall m = true) :
    ∃ c xs, op = .call c ∧ opds c.args.toList = some xs ∧ ((∃ f, m = .call f xs ∧ c.callee = .value (.func f)) ∨ (∃ t, m = .callv (.t t) xs ∧ c.callee = .value (.tmp t))) := by
  cases op with
  | call c =>
    obtain ⟨callee, args, ts⟩ := c
    simp only [compOp] at h
    split at h <;> first | (cases h; done) | skip
    rename_i xs hxs
    refine ⟨_, xs, rfl, hxs, ?_⟩
    split at h
    · rw [compBi_noCall h] at hc; cases hc
    · split at h <;> first | (cases h; done) | skip
      split at h <;> first | (cases h; done) | skip
      split at h
      · rw [Option.map_eq_some_iff] at h; obtain ⟨_, _, rfl⟩ := h; cases hc
      · cases h; exact .inl ⟨_, rfl, rfl⟩
    · cases h; exact .inr ⟨_, rfl, rfl⟩
    · cases h
  | makeFunc f xs ys =>
    exfalso
    cases f <;> simp only [compOp] at h <;> first | (cases h; done) | skip
    repeat' split at h
    all_goals first | (cases h; done) | (cases h; cases hc; done)
  | _ =>
    exfalso
    simp only [compOp] at h
    repeat' split at h
    all_goals first | (cases h; done) | (cases h; cases hc; done) | (rw [Option.map_eq_some_iff] at h; obtain ⟨_, _, rfl⟩ := h; cases hc; done)

theorem RelL.append {ρ : Map} {old : List Nat → Prop} {w : World} : ∀ {a b : List AV} {x y : List Value}, RelL ρ old w a x → RelL ρ old w b y → RelL ρ old w (a ++ b) (x ++ y)
  | [], b, [], y, _, h => h
  | a :: r, b, x :: s, y, h, k => by
    simp only [RelL, List.cons_append] at h ⊢
    exact ⟨h.1, RelL.append h.2 k⟩
  | [], _, _ :: _, _, h, _ => by simp only [RelL] at h
  | _ :: _, _, [], _, h, _ => by simp only [RelL] at h

theorem run_call {P : Program} {o : Oper} {c : Call} {ρe : Operand → Value} {w : World} {x : Operand} {f : FuncId} {a b : Array Value} (hop : o.op = .call c) (hc : c.callee = .value x) (hx : ρe x = .func (.func f) a b) (hf : FnIs P f) :
    (execOp ρe o).run P w = .ok (.enter f (a ++ c.args.map ρe ++ b)) w := by
  obtain ⟨fn, h1, h2, h3⟩ := hf
  have h3' : fn.body.isNone = false := by cases hb : fn.body <;> simp [hb] at h3 ⊢
  simp only [execOp, hop, resolve, hc, hx, Deferred.ofValue, Sem.run_bind, Sem.run_pure, Result.andThen_ok, invoke, callFunc, program, Sem.run, h1]
  simp [h2, h3', Sem.run]

section
variable {P : Program} {PP : Prog} {C : Caller} {d n B : Nat} {ρ : Map} {old : List Nat → Prop} {w : World} {st : List Nat} {e : Env} {H H' : Heap} {v : AV} {a : Act} {o : Oper} {m : MOp}

theorem step_wp (hC : CallerOk P C) (hS : SpecOk P PP) {mo : MO} (hm : compOp P o.op = some mo.op) (hdst : mo.dst = o.dst) (h : stepOp PP C d st mo e H = some (v, H')) (g : Good d n B ρ old w e H a)
    (hst : ∀ q, old q → ∀ τ, q ≠ τ ++ st) (hd : ∀ t, o.dst = some t → t < n) {K : Act → World → Prop} {Q : Exit → Act → World → Prop}
    (hK : ∀ ρ' old' u w', After d B H ρ old w (fun q => ∃ τ, q = τ ++ st) H' ρ' old' w' → Good d n B ρ' old' w' (putD e o.dst v) H' (a.put o.dst u) → RelV ρ' old' w' v u → K (a.put o.dst u) w') : o.wp P a w K Q := by
  have hlow := stepOp_low h g.low
  have calls : ∀ (f : FuncId) (cargs : Array Value), Calls P f cargs w (CallPost d B H ρ old w v H' fun q => ∃ τ, q = τ ++ st) → o.upon P a K Q (.ok (.enter f cargs) w) := by
    intro f cargs hc
    refine Calls.mono hc ?_
    rintro e' w' ⟨u, ρ', old', rfl, k, hu, hH, hb, hs, hav, hfr⟩
    exact hK ρ' old' u w' ⟨k, hb, hs, hav, hfr⟩ (g.put k hb hH hlow hd hu) hu
  unfold Oper.wp
  cases hcall : isCall mo.op with
  | true =>
    obtain ⟨c, xs, hop, hxs, hc⟩ := compOp_isCall hm hcall
    have hargs := opds_rel g.env hxs
    have hargs' : RelL ρ old w (Opd.evs e xs) (c.args.map a.eval).toList := by simpa using hargs
    unfold stepOp at h
    rcases hc with ⟨f, hmo, hcal⟩ | ⟨t, hmo, hcal⟩
    · simp only [hmo] at h
      obtain ⟨hf, hcl⟩ := callIn_ok hC hS h g.low hargs' g.heap g.base hst
      rw [run_call hop hcal (ρe := a.eval) (a := #[]) (b := #[]) rfl hf]
      simpa using calls f _ hcl
    · simp only [hmo] at h
      split at h <;> first | (cases h; done) | skip
      rename_i f xa xb hx
      have hx' : RelV ρ old w (.fn (.func f) xa xb) (a.eval (.tmp t)) := by rw [← hx]; exact g.env t
      simp only [RelV] at hx'
      obtain ⟨a', b', e1, e2, e3⟩ := hx'
      obtain ⟨hf, hcl⟩ := callIn_ok hC hS h g.low (cargs := a' ++ c.args.map a.eval ++ b') (by simpa using (e2.append hargs').append e3) g.heap g.base hst
      rw [run_call hop hcal (ρe := a.eval) e1 hf]
      exact calls f _ hcl
  | false =>
    obtain ⟨q0, h2⟩ : ∃ q0, opSem ⟨d, mo.dst.getD 0, q0⟩ st mo.op e H = some (v, H') := by
      unfold stepOp at h
      split at h
      · rename_i hq; rw [hq] at hcall; cases hcall
      · rename_i hq; rw [hq] at hcall; cases hcall
      · rename_i hq; rw [hq]; exact ⟨_, h⟩
      · exact ⟨0, h⟩
    obtain ⟨r, u, w', ρ', old', hrun, hr, k, hu, hH, hb, hs, hav, hfr⟩ := opSem_does hm h2 g.env g.heap g.base (fun ho => hst _ ho [] rfl)
    rw [hrun]
    have haf : After d B H ρ old w (fun q => ∃ τ, q = τ ++ st) H' ρ' old' w' := ⟨k, hb, fun q hq => (hs q hq).imp id fun e => ⟨[], e⟩, hav, hfr⟩
    rcases hr with rfl | ⟨rfl, rfl⟩
    · exact hK ρ' old' u w' haf (g.put k hb hH hlow hd hu) hu
    · exact hK ρ' old' undef w' haf (g.put k hb hH hlow hd hu) hu

/-- an operation that does not take part -/
theorem skip_good (g : Good d n B ρ old w e H a) (hd : ∀ t, o.dst = some t → t < n) : Good d n B ρ old w (putD e o.dst (.v undef)) H (a.put o.dst undef) :=
  g.put ⟨fun b _ h => ⟨rfl, h⟩, fun _ _ _ _ e _ => e, fun _ h => h, fun _ _ _ _ _ _ => rfl, fun _ _ _ => Iff.rfl⟩ (Below.refl _ _) g.heap g.low hd (by simp only [RelV])

theorem wanted_of {ops : Array Oper} {g : Option (Nat × Bool)} {b : Bool} (hE : ERel ρ old w e a.tmps) (hg : compGuard ops o.guard = some g) (h : guardOf e g = some b) : Region.wanted o (yielded ops a.tmps) = b := by
  unfold Region.wanted
  cases hq : o.guard with
  | none =>
    rw [hq] at hg; simp only [compGuard] at hg; cases hg
    simp only [guardOf] at h; cases h; rfl
  | some jw =>
    obtain ⟨j, want⟩ := jw
    rw [hq] at hg
    simp only [compGuard] at hg
    split at hg
    · cases hg
    · rename_i oj hj
      rw [Option.map_eq_some_iff] at hg
      obtain ⟨t, ht, rfl⟩ := hg
      simp only [guardOf] at h
      have hr := hE t
      have hy : yielded ops a.tmps j = match a.tmps[t]? with | some (.bool b) => some b | _ => none := by
        unfold yielded
        rw [hj]
        simp only [Option.bind_some, ht]
        cases a.tmps[t]? with
        | none => rfl
        | some y => cases y <;> rfl
      simp only [hy]
      split at h
      · rename_i b0 hb
        cases h
        rw [hb] at hr
        simp only [RelV] at hr
        have : a.tmps[t]? = some (.bool b0) := by
          cases hx : a.tmps[t]? with
          | none => simp [Array.getD_eq_getD_getElem?, hx, undef] at hr
          | some y => simp [Array.getD_eq_getD_getElem?, hx] at hr; rw [hr]
        rw [this]
        cases b0 <;> cases want <;> rfl
      · rename_i vs hb
        cases h
        rw [hb] at hr
        simp only [RelV] at hr
        cases hx : a.tmps[t]? with
        | none => rfl
        | some y => simp [Array.getD_eq_getD_getElem?, hx] at hr; rw [hr]; rfl
      · cases h

theorem compOper_dst {ops : Array Oper} {pre : List Nat} : (compOper P ops o pre).dst = o.dst := by
  unfold compOper; split <;> rfl

theorem evOps_k {d : Nat} {π : List Nat} : ∀ (l : List MO) (s s' : St), evOps PP C d π l s = some s' → s.k ≤ s'.k
  | [], s, s', h => by simp only [evOps] at h; cases h; exact Nat.le_refl _
  | o :: r, s, s', h => by
    simp only [evOps] at h
    split at h
    · cases h
    · have := evOps_k r _ _ h; simp only at this; omega
    · split at h
      · cases h
      · have := evOps_k r _ _ h; simp only at this; omega

theorem stamp_same {τ τ' π : List Nat} {m m' : Nat} (h : τ ++ m :: π = τ' ++ m' :: π) : m = m' := by
  have hl := congrArg List.length h
  simp at hl
  have := (List.append_inj h hl).2
  simp at this
  exact this

theorem evOps_wp (hC : CallerOk P C) (hS : SpecOk P PP) {ops : Array Oper} {π : List Nat} {Q : Exit → Act → World → Prop} : ∀ (l : List Oper) (ps : List (List Nat)) (s s' : St) {ρ : Map} {old : List Nat → Prop} {w : World} {a : Act},
    evOps PP C d π (compOps P ops l ps) s = some s' → dstsOk n (compOps P ops l ps) = true → Good d n B ρ old w s.env s.H a → (∀ q, old q → ∀ τ m, s.k ≤ m → q ≠ τ ++ m :: π) →
    (∀ ρ' old' a' w', After d B s.H ρ old w (fun q => ∃ τ m, q = τ ++ m :: π ∧ s.k ≤ m ∧ m < s'.k) s'.H ρ' old' w' → Good d n B ρ' old' w' s'.env s'.H a' → Q .normal a' w') → wpList P ops Q l a w
  | [], ps, s, s', ρ, old, w, a, h, hd, g, hst, hQ => by
    simp only [compOps, evOps] at h
    cases h
    exact hQ _ _ _ _ After.refl g
  | o :: r, ps, s, s', ρ, old, w, a, h, hd, g, hst, hQ => by
    simp only [compOps, evOps] at h
    simp only [compOps, dstsOk, Bool.and_eq_true] at hd
    have hd1 : ∀ t, o.dst = some t → t < n := by
      intro t ht
      have := hd.1
      rw [compOper_dst, ht] at this
      simpa using this
    have hbad : compOper P ops o (ps.headD []) = ⟨o.dst, .bad, none, ps.headD []⟩ → False := by
      intro hb
      rw [hb] at h
      simp only [guardOf, stepOp, opSem] at h
      cases h
    cases e1 : compOp P o.op with
    | none => exact (hbad (by simp [compOper, e1])).elim
    | some m =>
    cases e2 : compGuard ops o.guard with
    | none => exact (hbad (by simp [compOper, e1, e2])).elim
    | some gd =>
      have e3 : compOper P ops o (ps.headD []) = ⟨o.dst, m, gd, ps.headD []⟩ := by simp [compOper, e1, e2]
      rw [e3] at h
      simp only at h
      cases hg : guardOf s.env gd with
      | none => rw [hg] at h; cases h
      | some b =>
        rw [hg] at h
        have hw := wanted_of g.env e2 hg
        unfold wpList
        rw [hw]
        cases b with
        | false =>
          simp only at h
          exact evOps_wp hC hS (Q := Q) r ps.tail ⟨putD s.env o.dst (.v undef), s.H, s.k + 1⟩ s' h hd.2 (skip_good g hd1) (fun q hq τ m hm => hst q hq τ m (by simp only at hm; omega)) (fun ρ' old' a' w' ha g' =>
            hQ ρ' old' a' w' ⟨ha.keep, ha.below, fun q hq => (ha.news q hq).imp id fun ⟨τ, m, e, m1, m2⟩ => ⟨τ, m, e, by simp only at m1; omega, m2⟩, ha.av, ha.fr⟩ g')
        | true =>
          simp only at h
          cases hs : stepOp PP C d (s.k :: π) ⟨o.dst, m, gd, ps.headD []⟩ s.env s.H with
          | none => rw [hs] at h; cases h
          | some vh =>
            obtain ⟨v, H1⟩ := vh
            rw [hs] at h
            simp only at h
            have hk := evOps_k _ _ _ h
            simp only at hk
            rw [if_pos rfl]
            refine .inl (step_wp hC hS (mo := ⟨o.dst, m, gd, ps.headD []⟩) e1 rfl hs g (fun q hq τ => hst q hq τ s.k (Nat.le_refl _)) hd1 ?_)
            intro ρ1 old1 u w1 ha1 g1 _
            have hfresh : ∀ q, old1 q → ∀ τ m, s.k + 1 ≤ m → q ≠ τ ++ m :: π := by
              intro q hq τ m hm he
              rcases ha1.news q hq with h1 | ⟨τ', h1⟩
              · exact hst q h1 τ m (by omega) he
              · rw [he] at h1
                have := stamp_same h1
                omega
            refine evOps_wp hC hS (Q := Q) r ps.tail ⟨putD s.env o.dst v, H1, s.k + 1⟩ s' h hd.2 g1 hfresh (fun ρ' old' a' w' ha g' => ?_)
            exact hQ ρ' old' a' w' (ha1.trans ha (fun q ⟨τ, e⟩ => ⟨τ, s.k, e, Nat.le_refl _, by omega⟩) fun q ⟨τ, m, e, m1, m2⟩ => ⟨τ, m, e, by simp only at m1; omega, m2⟩) g'
end
end Go.Proofs.Ytnphdnokedhhkaa.Fw
namespace Go.Proofs.Ytnphdnokedhhkaa.Fw
open Go Go.RowKit

def MC.bare : MC → MC
  | .seq a b => .seq a.bare b.bare
  | .cond c a b => .cond c a.bare b.bare
  | .block id b => .block id b.bare
  | .loop _ _ b => .loop [] [] b.bare
  | c => c
theorem annot_bare (vn : VN) (ret : List Nat) : ∀ (m : MC) (after : List Nat) (x : List (Nat × List Nat)), (annot vn ret m after x).bare = m.bare
  | .skip, _, _ => by simp only [annot, MC.bare]
  | .ops .., _, _ => by simp only [annot, MC.bare]
  | .seq a b, after, x => by simp only [annot, MC.bare, annot_bare vn ret a, annot_bare vn ret b]
  | .cond c a b, after, x => by simp only [annot, MC.bare, annot_bare vn ret a, annot_bare vn ret b]
  | .block id b, after, x => by simp only [annot, MC.bare, annot_bare vn ret b]
  | .loop _ _ b, after, x => by simp only [annot, MC.bare, annot_bare vn ret b]
  | .exit _, _, _ => by simp only [annot, MC.bare]
  | .ret, _, _ => by simp only [annot, MC.bare]
theorem annot_fits (n : Nat) (vn : VN) (ret : List Nat) : ∀ (m : MC) (after : List Nat) (x : List (Nat × List Nat)), (annot vn ret m after x).fits n = m.fits n
  | .skip, _, _ => by simp only [annot, MC.fits]
  | .ops .., _, _ => by simp only [annot, MC.fits]
  | .seq a b, after, x => by simp only [annot, MC.fits, annot_fits n vn ret a, annot_fits n vn ret b]
  | .cond c a b, after, x => by simp only [annot, MC.fits, annot_fits n vn ret a, annot_fits n vn ret b]
  | .block id b, after, x => by simp only [annot, MC.fits, annot_fits n vn ret b]
  | .loop _ _ b, after, x => by simp only [annot, MC.fits, annot_fits n vn ret b]
  | .exit _, _, _ => by simp only [annot, MC.fits]
  | .ret, _, _ => by simp only [annot, MC.fits]

def exitOf : Ex → Exit
  | .nrm => .normal
  | .exit i => .exit i
  | .ret => .ret

theorem get_liveEnv (e : Env) (t : Nat) : ∀ l : List Nat, (liveEnv e l).get t = e.get t ∨ (liveEnv e l).get t = .junk
  | [] => .inr rfl
  | k :: r => by
    simp only [liveEnv, Env.get]
    by_cases h : k = t
    · subst h; simp
    · rw [if_neg h]; exact get_liveEnv e t r
theorem get_keepSites (d : Nat) (l : List Site) (s : Site) : ∀ H : Heap, (keepSites d l H).get s = if s.d < d ∨ s ∈ l then H.get s else none
  | [] => by simp [keepSites, Heap.get]
  | (k, b) :: r => by
    simp only [keepSites]
    by_cases hk : k.d < d ∨ k ∈ l
    · rw [if_pos hk]
      simp only [Heap.get]
      by_cases hs : k = s
      · subst hs; simp [hk]
      · rw [if_neg hs, if_neg hs]; exact get_keepSites d l s r
    · rw [if_neg hk]
      simp only [Heap.get]
      by_cases hs : k = s
      · subst hs; simp [hk, get_keepSites d l k r]
      · rw [if_neg hs]; exact get_keepSites d l s r

section
variable {P : Program} {PP : Prog} {C : Caller} {D n B : Nat}

theorem prune_good {ρ : Map} {old : List Nat → Prop} {w : World} {s : St} {a : Act} (d : Nat) (live : List Nat) (S : List Nat → Prop) (g : Good d n B ρ old w s.env s.H a) :
    ∃ ρp, After d B s.H ρ old w S (prune d live s).H ρp old w ∧ Good d n B ρp old w (prune d live s).env (prune d live s).H a := by
  let L := reach s.H 3 (refsEnv (liveEnv s.env live))
  let ρp : Map := ⟨fun x => if x.d < d ∨ x ∈ L then ρ x else none, ρ.av, ρ.vt⟩
  have hρ : ∀ x y, ρp x = some y → ρ x = some y := by
    intro x y h
    simp only [ρp] at h
    split at h
    · exact h
    · cases h
  have k : Keep ρ ρp old old w w := ⟨fun b _ hn => ⟨rfl, by
    rintro (q | ⟨x, z, q, q1⟩)
    · exact hn (.inl q)
    · exact hn (.inr ⟨x, z, q, hρ _ _ q1⟩)⟩, fun x b z q e _ => hρ _ _ e, fun _ h => h, fun _ _ _ _ _ _ => rfl, fun _ _ _ => Iff.rfl⟩
  refine ⟨ρp, ⟨k, Below.refl _ _, fun _ h => .inl h, rfl, fun x hx hn => ⟨?_, ?_, fun _ _ _ _ => rfl⟩⟩, ⟨fun t => ?_, ?_, g.base, g.size, g.defers, fun x b hb => ?_⟩⟩
  · show (keepSites d L s.H).get x = none
    rw [get_keepSites, hn]; split <;> rfl
  · simp [ρp, hx]
  · show RelV ρp old w ((liveEnv s.env live).get t) _
    rcases get_liveEnv s.env t live with h | h
    · rw [h]; exact RelV.mono k _ _ (g.env t)
    · rw [h]; simp only [RelV]
  · refine g.heap.move k (fun x blk hb => ?_) (fun _ _ h => h) hρ fun b _ => rfl
    have hb' : (keepSites d L s.H).get x = some blk := hb
    rw [get_keepSites] at hb'
    split at hb'
    · rename_i hx
      exact ⟨hb', by simp [ρp, hx]⟩
    · cases hb'
  · have hb' : (keepSites d L s.H).get x = some b := hb
    rw [get_keepSites] at hb'
    split at hb'
    · exact g.low x b hb'
    · cases hb'

/-- what holds while nil slices are told as empty lists -/
structure CInv (D B : Nat) (ρ : Map) (old : List Nat → Prop) (w : World) (tmps : Array Value) (H0 : Heap) (e : Env) (H : Heap) : Prop where
  env : ERel ρ old w e tmps
  heap : HRel B ρ old w H
  low : Low D H
  out : ∀ s : Site, s.d < D → H0.get s = none → H.get s = none
theorem isNils_is {x : AV} (h : isNils x = true) : x = .nils := by cases x <;> simp [isNils] at h ⊢
/-- an empty list more -/
theorem HRel.virt {ρ : Map} {old : List Nat → Prop} {w : World} {H : Heap} {st : List Nat} (h : HRel B ρ old w H) (hv : ∀ s, ρ.vt s st) (ho : old st) (S : Site) (z : Nat) (l : Bool) : HRel B ρ old w ((S, ⟨st, [], z, l⟩) :: H) := by
  refine ⟨fun s blk hg => ?_, h.vold, h.inb, h.inj⟩
  simp only [Heap.get] at hg
  split at hg
  · cases hg; exact .inl ⟨hv _, rfl, ho⟩
  · exact h.there s blk hg
theorem coerE_inv {ρ : Map} {old : List Nat → Prop} {w : World} {tmps : Array Value} {H0 : Heap} {st : List Nat} (hv : ∀ s, ρ.vt s st) (ho : old st) : ∀ (vn : VN) (e : Env) (H : Heap), CInv D B ρ old w tmps H0 e H → CInv D B ρ old w tmps H0 (coerE D st vn e H).1 (coerE D st vn e H).2
  | [], e, H, h => h
  | (t, none, z, l) :: r, e, H, h => by
    have low : ∀ G : Heap, Low D G → Low D ((vSite D t none, ⟨st, [], z, l⟩) :: G) := fun G hG s b hb => by
      simp only [Heap.get] at hb
      split at hb
      · rename_i e; subst e; exact Nat.le_refl _
      · exact hG s b hb
    simp only [coerE]
    split
    · rename_i h1 h2
      have h1 := isNils_is h1
      refine coerE_inv hv ho r _ _ ⟨fun t' => ?_, h.heap.virt hv ho _ z l, low _ h.low, fun s hs hn => ?_⟩
      · simp only [Env.get]
        by_cases ht : t = t'
        · subst ht
          rw [if_pos rfl]
          have := h.env t
          rw [h1] at this
          simp only [RelV] at this ⊢
          exact ⟨ho, .inl ⟨hv _, ⟨none, this⟩, trivial⟩⟩
        · rw [if_neg ht]; exact h.env t'
      · simp only [Heap.get]
        rw [if_neg (by rintro rfl; exact Nat.lt_irrefl _ hs)]
        exact h.out s hs hn
    · exact coerE_inv hv ho r e H h
  | (t, some off, z, l) :: r, e, H, h => by
    have next := coerE_inv hv ho r e H h
    simp only [coerE]
    split
    · rename_i s st' hp
      split
      · rename_i bst cs bz hrow
        split
        · rename_i c hc
          split
          · rename_i h1 h2
            have h1 := isNils_is h1
            subst h1
            have hi : ([cs] : List (List AV))[0]? = some cs := rfl
            have hset : HRel B ρ old w (H.set s ⟨bst, [cs.set off (.slc (vSite D t (some off)) st z 0 0 false)], bz, false⟩) := by
              rcases h.heap.row hrow with ⟨_, he, _⟩ | ⟨hnv, b, hρ, hBb, hs, hg, c', ty, hb, hcr⟩
              · cases he
              refine ⟨fun s' blk hg' => ?_, h.heap.vold, h.heap.inb, h.heap.inj⟩
              rw [Heap.get_set] at hg'
              split at hg'
              · rename_i hss
                subst hss
                cases hg'
                have hs : bst = st' := hs
                subst hs
                have hold : old bst := by
                  rcases h.heap.there s _ hg with ⟨_, he, _⟩ | ⟨_, b, _, _, h3, _⟩
                  · cases he
                  · exact h3
                refine .inr ⟨hnv, b, hρ, hBb, hold, c', ty, hb, fun i e' he => ?_⟩
                cases i with
                | succ i => simp at he
                | zero =>
                  simp only [List.getElem?_cons_zero, Option.some.injEq] at he
                  subst he
                  obtain ⟨hl, hcell⟩ := hcr 0 cs hi
                  refine ⟨by rw [List.length_set]; exact hl, fun j v hj => ⟨fun hf => (by cases hf), ?_⟩⟩
                  rw [List.getElem?_set] at hj
                  split at hj
                  · rename_i hjo
                    subst hjo
                    split at hj
                    · cases hj
                      obtain ⟨_, u, hu, hr⟩ := hcell off _ hc
                      refine ⟨u, hu, ?_⟩
                      simp only [RelV] at hr ⊢
                      exact ⟨ho, .inl ⟨hv _, ⟨none, hr⟩, trivial⟩⟩
                    · cases hj
                  · exact (hcell j v hj).2
              · exact h.heap.there s' blk hg'
            have hold2 : ∃ c, H.get s = some c := by
              rcases h.heap.row hrow with ⟨_, he, _⟩ | ⟨_, b, _, _, _, hg, _⟩
              · cases he
              · exact ⟨_, hg⟩
            obtain ⟨c0, hc0⟩ := hold2
            refine coerE_inv hv ho r _ _ ⟨h.env, hset.virt hv ho _ z l, fun x b hb => ?_, fun x hx hn => ?_⟩
            · simp only [Heap.get] at hb
              split at hb
              · rename_i e; subst e; exact Nat.le_refl _
              · rw [Heap.get_set] at hb
                split at hb
                · rename_i e; subst e; exact h.low _ _ hc0
                · exact h.low _ _ hb
            · simp only [Heap.get]
              rw [if_neg (by rintro rfl; exact Nat.lt_irrefl _ hx), Heap.get_set]
              split
              · rename_i e; subst e
                have := h.out _ hx hn
                rw [hc0] at this; cases this
              · exact h.out x hx hn
          · exact next
        · exact next
      · exact next
    · exact next
theorem coer_good {ρ : Map} {old : List Nat → Prop} {w : World} {s : St} {a : Act} (st : List Nat) (vn : VN) (hst : ¬ old st) (g : Good D n B ρ old w s.env s.H a) :
    ∃ ρc oldc, After D B s.H ρ old w (fun q => q = st) (coer D st vn s).H ρc oldc w ∧ Good D n B ρc oldc w (coer D st vn s).env (coer D st vn s).H a := by
  let ρc : Map := ⟨ρ.m, ρ.av, fun s q => ρ.vt s q ∨ q = st⟩
  have k : Keep ρ ρc old (fun q => old q ∨ q = st) w w := by
    refine ⟨fun b _ hn => ⟨rfl, hn⟩, fun _ _ _ _ e _ => e, fun _ h => .inl h, fun _ _ _ _ _ _ => rfl, fun s q hq => ⟨fun h' => ?_, fun h' => .inl h'⟩⟩
    rcases h' with h' | e
    · exact h'
    · subst e; exact absurd hq hst
  have hH : HRel B ρc (fun q => old q ∨ q = st) w s.H := by
    refine ⟨fun s' blk hg => ?_, fun s' q h' => ?_, g.heap.inb, g.heap.inj⟩
    · rcases g.heap.there s' blk hg with ⟨h1, h2, h3⟩ | ⟨hnv, b, e, h1, h2, c, ty, h3, h4⟩
      · exact .inl ⟨.inl h1, h2, .inl h3⟩
      refine .inr ⟨?_, b, e, h1, .inl h2, c, ty, h3, h4.mono fun v u hv => RelV.mono k v u hv⟩
      rintro (h' | e')
      · exact hnv h'
      · rw [e'] at h2; exact hst h2
    · rcases h' with h' | e
      · exact .inl (g.heap.vold _ _ h')
      · exact .inr e
  have inv := coerE_inv (D := D) (B := B) (ρ := ρc) (old := fun q => old q ∨ q = st) (w := w) (tmps := a.tmps) (H0 := s.H) (st := st) (fun _ => .inr rfl) (.inr rfl) vn s.env s.H ⟨fun t => RelV.mono k _ _ (g.env t), hH, g.low, fun _ _ h => h⟩
  exact ⟨ρc, fun q => old q ∨ q = st, ⟨k, Below.refl _ _, fun _ h => h, rfl, fun x hx hn => ⟨inv.out x hx hn, rfl, fun _ _ _ _ => rfl⟩⟩, ⟨inv.env, inv.heap, g.base, g.size, g.defers, inv.low⟩⟩

/-- what a statement must leave so that 'Q' holds -/
def Leaves (D n B : Nat) (H : Heap) (Q : Exit → Act → World → Prop) (ρ : Map) (old : List Nat → Prop) (w : World) (S : List Nat → Prop) (x : Ex) (s' : St) : Prop :=
  ∀ ρ' old' a' w', After D B H ρ old w S s'.H ρ' old' w' → Good D n B ρ' old' w' s'.env s'.H a' → Q (exitOf x) a' w'

/-- a statement does what the evaluator says -/
def Walks (P : Program) (D n B : Nat) (run : List Nat → St → Option (Ex × St)) (c : Code) : Prop :=
  ∀ π s x s', run π s = some (x, s') → s.k ≤ s'.k ∧ ∀ ρ old w a, Good D n B ρ old w s.env s.H a → (∀ q, old q → ∀ τ m, s.k ≤ m → q ≠ τ ++ m :: π) →
    ∀ Q, Leaves D n B s.H Q ρ old w (fun q => ∃ τ m, q = τ ++ m :: π ∧ s.k ≤ m ∧ m < s'.k) x s' → c.wp P Q a w

theorem loop_walks {c : Code} {body : List Nat → St → Option (Ex × St)} (hb : Walks P D n B body c) (live : List Nat) (π : List Nat) (k : Nat) : ∀ (m j : Nat) (s : St) (x : Ex) (s' : St),
    evLoop body D live (k :: π) m j s = some (x, s') → ∀ ρ old w a, Good D n B ρ old w s.env s.H a → (∀ q, old q → ∀ τ i, j ≤ i → q ≠ τ ++ i :: k :: π) →
      ∀ Q, Leaves D n B s.H Q ρ old w (fun q => ∃ τ, q = τ ++ k :: π) x s' → Code.rounds P c Q m a w
  | 0, j, s, x, s', h => by simp only [evLoop] at h; cases h
  | m + 1, j, s, x, s', h => by
    intro ρ old w a g hst Q hQ
    rw [rounds_succ]
    simp only [evLoop] at h
    obtain ⟨ρp, ha, gp⟩ := prune_good D live (fun q => ∃ τ, q = τ ++ k :: π) g
    cases hr : body (j :: k :: π) (prune D live s) with
    | none => rw [hr] at h; cases h
    | some xs =>
      obtain ⟨y, s1⟩ := xs
      obtain ⟨_, hw⟩ := hb _ _ _ _ hr
      have hfresh : ∀ q, old q → ∀ τ i, (prune D live s).k ≤ i → q ≠ τ ++ i :: j :: k :: π := by
        intro q hq τ i _ e
        exact hst q hq (τ ++ [i]) j (Nat.le_refl _) (by rw [e]; simp)
      refine hw ρp old w a gp hfresh _ ?_
      intro ρ1 old1 a1 w1 ha1 g1
      have haft : After D B s.H ρ old w (fun q => ∃ τ, q = τ ++ k :: π) s1.H ρ1 old1 w1 := ha.trans ha1 (fun _ h => h) fun q ⟨τ, i, e, _⟩ => ⟨τ ++ [i, j], by rw [e]; simp⟩
      rw [hr] at h
      cases y with
      | nrm =>
        simp only at h
        show Code.rounds P c Q m a1 w1
        refine loop_walks hb live π k m (j + 1) s1 x s' h ρ1 old1 w1 a1 g1 ?_ Q ?_
        · intro q hq τ i hi e
          rcases ha1.news q hq with h1 | ⟨τ1, i1, h1, _⟩
          · exact hst q h1 τ i (by omega) e
          · rw [e] at h1
            have := stamp_same (τ := τ) (τ' := τ1 ++ [i1]) (π := k :: π) (m := i) (m' := j) (by rw [h1]; simp)
            omega
        · intro ρ2 old2 a2 w2 ha2 g2
          exact hQ ρ2 old2 a2 w2 (haft.trans ha2 (fun _ h => h) fun _ h => h) g2
      | exit i =>
        simp only at h
        cases h
        exact hQ ρ1 old1 a1 w1 haft g1
      | ret =>
        simp only at h
        cases h
        exact hQ ρ1 old1 a1 w1 haft g1

/-- regions in no set order -/
def DrawOk (P : Program) (PP : Prog) (C : Caller) : Prop := ∀ (n B id d : Nat) (ops : Array Oper), edgesOk 0 ops.toList = true → dstsOk n (compOps P ops ops.toList (presOf ops.toList [])) = true →
  Walks P d n B (fun π s => (evDraw PP C d π (compOps P ops ops.toList (presOf ops.toList [])) s).map fun s => (.nrm, s)) (.region id ops true)

theorem bad_none {d : Nat} {π : List Nat} {s : St} : evOps PP C d π [⟨none, .bad, none, []⟩] s = none := by
  simp only [evOps, guardOf, stepOp, opSem]

theorem evC_walks (hC : CallerOk P C) (hS : SpecOk P PP) (hD : DrawOk P PP C) (d : Nat) : ∀ (mc : MC) (c : Code), mc.bare = comp P c → mc.fits n = true → Walks P d n B (evC PP C d mc) c
  | .skip, c, he, hf => by
    intro π s x s' h
    simp only [evC] at h
    cases h
    refine ⟨Nat.le_refl _, fun ρ old w a g hst Q hQ => ?_⟩
    cases c <;> simp only [MC.bare, comp] at he <;> first | (cases he; done) | skip
    case skip => exact wp_skip (hQ _ _ _ _ After.refl g)
    case label => exact wp_label (hQ _ _ _ _ After.refl g)
    all_goals first | ((repeat' split at he) <;> cases he; done) | (rename_i dr; cases dr <;> simp only [comp] at he <;> (repeat' split at he) <;> cases he)
  | .ops l dr, c, he, hf => by
    intro π s x s' h
    cases c <;> simp only [MC.bare, comp] at he <;> first | (cases he; done) | (cases he; simp only [evC, bad_none] at h; cases h; done) | skip
    case region id ops draw =>
      cases draw with
      | false =>
        simp only [comp] at he
        cases he
        simp only [evC] at h
        rw [Option.map_eq_some_iff] at h
        obtain ⟨s1, h1, h2⟩ := h
        cases h2
        refine ⟨evOps_k _ _ _ h1, fun ρ old w a g hst Q hQ => wp_region_list ?_⟩
        exact evOps_wp hC hS _ _ _ _ h1 hf g hst fun ρ' old' a' w' ha g' => hQ ρ' old' a' w' ha g'
      | true =>
        simp only [comp] at he
        split at he
        · rename_i hedge
          cases he
          simp only [evC] at h
          exact hD n B id d ops hedge hf π s x s' h
        · cases he; simp only [evC, bad_none] at h; cases h
    case cond =>
      split at he
      · cases he
      · cases he; simp only [evC, bad_none] at h; cases h
  | .seq ma mb, c, he, hf => by
    cases c <;> simp only [MC.bare, comp] at he <;> first | (cases he; done) | skip
    case seq ca cb =>
      simp only [MC.fits, Bool.and_eq_true] at hf
      injection he with h1 h2
      intro π s x s' h
      simp only [evC] at h
      cases ha : evC PP C d ma π s with
      | none => rw [ha] at h; cases h
      | some y =>
        obtain ⟨y, s1⟩ := y
        obtain ⟨hk, hwa⟩ := evC_walks hC hS hD d ma ca h1 hf.1 π s y s1 ha
        rw [ha] at h
        cases y with
        | nrm =>
          simp only at h
          obtain ⟨hk2, hwb⟩ := evC_walks hC hS hD d mb cb h2 hf.2 π s1 x s' h
          refine ⟨by omega, fun ρ old w a g hst Q hQ => wp_seq (hwa ρ old w a g hst _ ?_)⟩
          intro ρ1 old1 a1 w1 ha1 g1
          show cb.wp P Q a1 w1
          refine hwb ρ1 old1 w1 a1 g1 ?_ Q ?_
          · intro q hq τ m hm e
            rcases ha1.news q hq with h1 | ⟨τ1, m1, h1, _, h3⟩
            · exact hst q h1 τ m (by omega) e
            · rw [e] at h1
              have := stamp_same h1
              omega
          · intro ρ2 old2 a2 w2 ha2 g2
            exact hQ _ _ _ _ (ha1.trans ha2 (fun q ⟨τ, m, e, m1, m2⟩ => ⟨τ, m, e, m1, by omega⟩) fun q ⟨τ, m, e, m1, m2⟩ => ⟨τ, m, e, by omega, m2⟩) g2
        | exit i =>
          simp only at h
          cases h
          exact ⟨hk, fun ρ old w a g hst Q hQ => wp_seq (hwa ρ old w a g hst _ fun ρ1 old1 a1 w1 ha1 g1 => hQ _ _ _ _ ha1 g1)⟩
        | ret =>
          simp only at h
          cases h
          exact ⟨hk, fun ρ old w a g hst Q hQ => wp_seq (hwa ρ old w a g hst _ fun ρ1 old1 a1 w1 ha1 g1 => hQ _ _ _ _ ha1 g1)⟩
    case scope ca =>
      simp only [MC.fits, Bool.and_eq_true] at hf
      injection he with h1 h2
      cases ma <;> simp only [MC.bare] at h1 <;> first | (cases h1; done) | skip
      intro π s x s' h
      simp only [evC] at h
      obtain ⟨hk, hwa⟩ := evC_walks hC hS hD d mb ca h2 hf.2 π s x s' h
      refine ⟨hk, fun ρ old w a g hst Q hQ => wp_scope_straight (hwa ρ old w a g hst _ fun ρ1 old1 a1 w1 ha1 g1 => ?_)⟩
      have := hQ ρ1 old1 a1 w1 ha1 g1
      cases x <;> exact this
    all_goals first | ((repeat' split at he) <;> cases he; done) | (rename_i dr; cases dr <;> simp only [comp] at he <;> (repeat' split at he) <;> cases he)
  | .cond mcnd ma mb, c, he, hf => by
    cases c <;> simp only [MC.bare, comp] at he <;> first | (cases he; done) | skip
    case cond cc ca cb =>
      simp only [MC.fits, Bool.and_eq_true] at hf
      split at he
      · rename_i c0 hc0
        injection he with h0 h1 h2
        subst h0
        intro π s x s' h
        simp only [evC] at h
        split at h
        · rename_i hv
          obtain ⟨hk, hw⟩ := evC_walks hC hS hD d ma ca h1 hf.1 π s x s' h
          refine ⟨hk, fun ρ old w a g hst Q hQ => wp_cond_true ?_ (hw ρ old w a g hst Q hQ)⟩
          have := opd_rel g.env hc0
          rw [hv] at this
          simpa only [RelV] using this
        · rename_i hv
          obtain ⟨hk, hw⟩ := evC_walks hC hS hD d mb cb h2 hf.2 π s x s' h
          refine ⟨hk, fun ρ old w a g hst Q hQ => wp_cond_false ?_ (hw ρ old w a g hst Q hQ)⟩
          have := opd_rel g.env hc0
          rw [hv] at this
          simpa only [RelV] using this
        · cases h
      · cases he
    all_goals first | ((repeat' split at he) <;> cases he; done) | (rename_i dr; cases dr <;> simp only [comp] at he <;> (repeat' split at he) <;> cases he)
  | .block id mb, c, he, hf => by
    cases c <;> simp only [MC.bare, comp] at he <;> first | (cases he; done) | skip
    case block id' cb =>
      simp only [MC.fits] at hf
      injection he with h0 h1
      subst h0
      intro π s x s' h
      simp only [evC] at h
      cases hb : evC PP C d mb π s with
      | none => rw [hb] at h; cases h
      | some y =>
        obtain ⟨y, s1⟩ := y
        obtain ⟨hk, hw⟩ := evC_walks hC hS hD d mb cb h1 hf π s y s1 hb
        rw [hb] at h
        cases y with
        | nrm =>
          simp only at h; cases h
          exact ⟨hk, fun ρ old w a g hst Q hQ => wp_block (hw ρ old w a g hst _ fun ρ1 old1 a1 w1 ha1 g1 => hQ _ _ _ _ ha1 g1)⟩
        | ret =>
          simp only at h; cases h
          exact ⟨hk, fun ρ old w a g hst Q hQ => wp_block (hw ρ old w a g hst _ fun ρ1 old1 a1 w1 ha1 g1 => hQ _ _ _ _ ha1 g1)⟩
        | exit i =>
          simp only at h
          by_cases hi : i = id
          · rw [if_pos hi] at h
            cases h
            refine ⟨hk, fun ρ old w a g hst Q hQ => wp_block (hw ρ old w a g hst _ fun ρ1 old1 a1 w1 ha1 g1 => ?_)⟩
            show (if i = id then Q .normal a1 w1 else Q (.exit i) a1 w1)
            rw [if_pos hi]
            exact hQ _ _ _ _ ha1 g1
          · rw [if_neg hi] at h
            cases h
            refine ⟨hk, fun ρ old w a g hst Q hQ => wp_block (hw ρ old w a g hst _ fun ρ1 old1 a1 w1 ha1 g1 => ?_)⟩
            show (if i = id then Q .normal a1 w1 else Q (.exit i) a1 w1)
            rw [if_neg hi]
            exact hQ _ _ _ _ ha1 g1
    all_goals first | ((repeat' split at he) <;> cases he; done) | (rename_i dr; cases dr <;> simp only [comp] at he <;> (repeat' split at he) <;> cases he)
  | .loop live vn mb, c, he, hf => by
    cases c <;> simp only [MC.bare, comp] at he <;> first | (cases he; done) | skip
    case loop cb =>
      simp only [MC.fits] at hf
      injection he with _ _ h1
      intro π s x s' h
      simp only [evC] at h
      cases hl : evLoop (evC PP C d mb) d live (s.k :: π) PP.L 0 (coer d (s.k :: π) vn (prune d live s)) with
      | none => rw [hl] at h; cases h
      | some y =>
        obtain ⟨y, s1⟩ := y
        rw [hl] at h
        simp only at h
        cases h
        refine ⟨Nat.le_succ _, fun ρ old w a g hst Q hQ => wp_loop_rounds PP.L ?_⟩
        have hnew : ¬ old (s.k :: π) := fun h' => hst _ h' [] s.k (Nat.le_refl _) rfl
        obtain ⟨ρp, hap, gp⟩ := prune_good d live (fun q => q = s.k :: π) g
        obtain ⟨ρc, oldc, hac, gc⟩ := coer_good (s.k :: π) vn hnew gp
        have ha0 := hap.trans (U := fun q => q = s.k :: π) hac (fun _ h => h) fun _ h => h
        refine loop_walks (evC_walks hC hS hD d mb cb h1 hf) live π s.k PP.L 0 _ _ _ hl ρc oldc w a gc ?_ Q ?_
        · intro q hq τ i _ e
          rcases ha0.news q hq with hq | hq
          · exact hst q hq (τ ++ [i]) s.k (Nat.le_refl _) (by rw [e]; simp)
          · rw [hq] at e
            have := congrArg List.length e
            simp at this; omega
        · intro ρ1 old1 a1 w1 ha1 g1
          have ha2 : After d B s.H ρ old w (fun q => ∃ τ m, q = τ ++ m :: π ∧ s.k ≤ m ∧ m < s.k + 1) s1.H ρ1 old1 w1 :=
            ha0.trans ha1 (fun q e => ⟨[], s.k, by rw [e]; rfl, Nat.le_refl _, Nat.lt_succ_self _⟩) fun q ⟨τ, e⟩ => ⟨τ, s.k, e, Nat.le_refl _, Nat.lt_succ_self _⟩
          cases x with
          | nrm => exact hQ _ _ _ _ ha2 g1
          | ret => exact hQ _ _ _ _ ha2 g1
          | exit i =>
            obtain ⟨ρ2, ha3, g2⟩ := prune_good d live (fun q => ∃ τ m, q = τ ++ m :: π ∧ s.k ≤ m ∧ m < s.k + 1) g1
            exact hQ _ _ _ _ (ha2.trans ha3 (fun _ h => h) fun _ h => h) g2
    all_goals first | ((repeat' split at he) <;> cases he; done) | (rename_i dr; cases dr <;> simp only [comp] at he <;> (repeat' split at he) <;> cases he)
  | .exit i, c, he, hf => by
    intro π s x s' h
    simp only [evC] at h
    cases h
    refine ⟨Nat.le_refl _, fun ρ old w a g hst Q hQ => ?_⟩
    cases c <;> simp only [MC.bare, comp] at he <;> first | (cases he; done) | skip
    case exit => cases he; exact wp_exit (hQ _ _ _ _ After.refl g)
    all_goals first | ((repeat' split at he) <;> cases he; done) | (rename_i dr; cases dr <;> simp only [comp] at he <;> (repeat' split at he) <;> cases he)
  | .ret, c, he, hf => by
    intro π s x s' h
    simp only [evC] at h
    cases h
    refine ⟨Nat.le_refl _, fun ρ old w a g hst Q hQ => ?_⟩
    cases c <;> simp only [MC.bare, comp] at he <;> first | (cases he; done) | skip
    case ret => exact wp_ret (hQ _ _ _ _ After.refl g)
    all_goals first | ((repeat' split at he) <;> cases he; done) | (rename_i dr; cases dr <;> simp only [comp] at he <;> (repeat' split at he) <;> cases he)
end
end Go.Proofs.Ytnphdnokedhhkaa.Fw
namespace Go.Proofs.Ytnphdnokedhhkaa.Fw
open Go Go.RowKit

def resF (tmps : Array Value) : ResultVar → Sem Value
  | .tmp t => pure (tmps.getD t undef)
  | .cell a t => do loadVar t (← asAddr (tmps.getD a undef))

section
variable {P : Program} {PP : Prog} {D n B : Nat} {ρ : Map} {old : List Nat → Prop} {w : World}

theorem results_eq (fn : Func) (tmps : Array Value) : results fn tmps = (do let vs ← fn.results.mapM (resF tmps); pure (if h : vs.size = 1 then vs[0] else .tuple vs)) := rfl

theorem res_run {s : St} {a : Act} (g : Good D n B ρ old w s.env s.H a) : ∀ (l : List ResultVar) (rvs : List RV) (vs : List AV), compRes P l = some rvs → optList (resOne s) rvs = some vs →
    ∃ us, (l.mapM (resF a.tmps)).run P w = .ok us w ∧ RelL ρ old w vs us
  | [], rvs, vs, h, hv => by
    simp only [compRes] at h; cases h
    simp only [optList] at hv; cases hv
    exact ⟨[], by simp, by simp only [RelL]⟩
  | .tmp t :: r, rvs, vs, h, hv => by
    simp only [compRes] at h
    rw [Option.map_eq_some_iff] at h
    obtain ⟨l, h1, rfl⟩ := h
    obtain ⟨y, ys, e1, e2, rfl⟩ := optList_cons hv
    obtain ⟨us, h2, h3⟩ := res_run g r l ys h1 e2
    simp only [resOne] at e1
    cases e1
    exact ⟨a.tmps.getD t undef :: us, by simp [List.mapM_cons, resF, h2], by simp only [RelL]; exact ⟨g.env t, h3⟩⟩
  | .cell t ty :: r, rvs, vs, h, hv => by
    simp only [compRes] at h
    split at h
    · rename_i agg k l e0 h1
      cases h
      obtain ⟨y, ys, e1, e2, rfl⟩ := optList_cons hv
      obtain ⟨us, h2, h3⟩ := res_run g r l ys h1 e2
      simp only [resOne] at e1
      split at e1 <;> first | (cases e1; done) | skip
      rename_i x st i off hx
      have hr := g.env t
      rw [hx] at hr
      split at e1
      · cases e1
      · rename_i blk hrow
        split at e1
        · cases e1
        · rename_i cs hi
          obtain ⟨b, hρ, hBb, hs, hg, c, ty', hb, hc⟩ := g.heap.at hrow hi
          simp only [RelV] at hr
          obtain ⟨_, p, hp, hq⟩ := hr
          obtain rfl := hq _ _ hρ
          obtain ⟨u, hu, hr'⟩ := take_run (P := P) e0 (hc.at hb hi) e1
          refine ⟨u :: us, ?_, by simp only [RelL]; exact ⟨hr', h3⟩⟩
          simp only [List.mapM_cons, resF, hp, asAddr]
          simp [hu, h2]
    · cases h

theorem relL_tuple {vs : List AV} {us : List Value} (h : RelL ρ old w vs us) {r : AV} (hr : (match vs with | [x] => some x | xs => some (.tup xs)) = some r) :
    RelV ρ old w r (if h : us.toArray.size = 1 then us.toArray[0] else .tuple us.toArray) := by
  have hl := relL_length h
  match vs, us with
  | [x], [u] =>
    simp only [RelL] at h
    cases hr
    simpa using h.1
  | [], [] => cases hr; simp [RelV, RelL]
  | x :: y :: vs, u :: v :: us =>
    cases hr
    simpa [RelV] using h
  | [], _ :: _ => simp at hl
  | [_], [] => simp at hl
  | [_], _ :: _ :: _ => simp at hl
  | _ :: _ :: _, [] => simp at hl
  | _ :: _ :: _, [_] => simp at hl

theorem results_run {s : St} {a : Act} {fn : Func} {rvs : List RV} {r : AV} (g : Good D n B ρ old w s.env s.H a) (h : compRes P fn.results.toList = some rvs) (hv : resOf s rvs = some r) :
    ∃ u, (results fn a.tmps).run P w = .ok u w ∧ RelV ρ old w r u := by
  unfold resOf at hv
  cases hq : optList (resOne s) rvs with
  | none => rw [hq] at hv; cases hv
  | some vs =>
    rw [hq] at hv
    obtain ⟨us, h1, h2⟩ := res_run g _ _ _ h hq
    refine ⟨_, ?_, relL_tuple h2 (r := r) ?_⟩
    · rw [results_eq, Array.mapM_eq_mapM_toList]
      simp [h1]
    · match vs, hv with
      | [], hv => exact hv
      | [_], hv => exact hv
      | _ :: _ :: _, hv => exact hv

theorem comp_bare (P : Program) : ∀ c : Code, (comp P c).bare = comp P c
  | .seq a b => by simp only [comp, MC.bare, comp_bare P a, comp_bare P b]
  | .cond c a b => by
    simp only [comp]
    split
    · simp only [MC.bare, comp_bare P a, comp_bare P b]
    · rfl
  | .block id b => by simp only [comp, MC.bare, comp_bare P b]
  | .loop b => by simp only [comp, MC.bare, comp_bare P b]
  | .region id ops d => by
    cases d
    · rfl
    · simp only [comp]; split <;> rfl
  | .skip => rfl
  | .exit _ => rfl
  | .ret => rfl
  | .label _ => rfl
  | .goto _ => rfl
  | .rangeFunc .. => rfl
  | .scope c => by simp only [comp, MC.bare, comp_bare P c]
  | .refuse _ => rfl

theorem get_argEnv : ∀ (args : List AV) (i t : Nat), (argEnv i args).get t = if i ≤ t ∧ t < i + args.length then (args[t - i]?).getD .junk else .junk
  | [], i, t => by simp [argEnv, Env.get]
  | a :: r, i, t => by
    simp only [argEnv, Env.get]
    by_cases h : i = t
    · subst h; simp
    · rw [if_neg h, get_argEnv r (i + 1) t]
      by_cases h2 : i + 1 ≤ t ∧ t < i + 1 + r.length
      · rw [if_pos h2, if_pos (by simp; omega)]
        have : t - i = (t - (i + 1)) + 1 := by omega
        rw [this]; rfl
      · rw [if_neg h2, if_neg (by simp; omega)]

theorem argEnv_rel {args : List AV} {cargs : Array Value} {k : Nat} (h : RelL ρ old w args cargs.toList) : ERel ρ old w (argEnv 0 args) (cargs ++ Array.replicate k undef) := by
  intro t
  rw [get_argEnv]
  have hl := relL_length h
  by_cases ht : 0 ≤ t ∧ t < 0 + args.length
  · rw [if_pos ht]
    have hlt : t < args.length := by omega
    obtain ⟨u, hu, hr⟩ := relL_at h t args[t] (by simp [hlt])
    have hu' : cargs[t]? = some u := by simpa using hu
    have hs : t < cargs.size := (Array.getElem?_eq_some_iff.1 hu').1
    have : (cargs ++ Array.replicate k undef).getD t undef = u := by
      rw [Array.getD_eq_getD_getElem?, Array.getElem?_append_left hs, hu']; rfl
    rw [this]
    simpa [hlt] using hr
  · rw [if_neg ht]; simp only [RelV]

/-- the small code stands for the program's -/
def FnsOk (P : Program) (PP : Prog) : Prop := ∀ f fm, PP.fn f = some fm → ∃ fn, P.funcs[f]? = some fn ∧ fn.name ≠ "runtime.NumGoroutine" ∧ compFn P fm.inl fm.vn fn = some fm

theorem runF_ok (hS : SpecOk P PP) (hF : FnsOk P PP) (hD : ∀ C, CallerOk P C → DrawOk P PP C) : ∀ k, CallerOk P (runF PP k)
  | 0 => by
    intro d π f args H r H' h
    simp only [runF] at h; cases h
  | k + 1 => by
    intro d π f args H r H' h hl B ρ old w cargs hr hH hB hst
    have hC := runF_ok hS hF hD k
    simp only [runF] at h
    cases hfm : PP.fn f with
    | none => rw [hfm] at h; cases h
    | some fm =>
      rw [hfm] at h
      simp only at h
      obtain ⟨fn, h1, h2, h3⟩ := hF f fm hfm
      unfold compFn at h3
      split at h3 <;> first | (cases h3; done) | skip
      rename_i c res hbody hres
      simp only at h3
      split at h3 <;> first | (cases h3; done) | skip
      rename_i hfits
      simp only [Option.some.injEq] at h3
      refine ⟨⟨fn, h1, h2, by simp [hbody]⟩, calls_of_wp h1 hbody ?_⟩
      cases hev : evC PP (runF PP k) d fm.code π ⟨argEnv 0 args, H, 0⟩ with
      | none => rw [hev] at h; cases h
      | some xs =>
        obtain ⟨x, s⟩ := xs
        rw [hev] at h
        have hcode : fm.code.bare = comp P c := by rw [← h3]; simp only; rw [annot_bare, comp_bare]
        have hfit : fm.code.fits fn.ntmps = true := by rw [← h3]; simp only; rw [annot_fits]; exact hfits
        have hrs : fm.res = res := by rw [← h3]
        obtain ⟨hk, hw⟩ := evC_walks (n := fn.ntmps) (B := B) hC hS (hD _ hC) d fm.code c hcode hfit π _ x s hev
        have g0 : Good d fn.ntmps B ρ old w (argEnv 0 args) H { tmps := cargs ++ Array.replicate (fn.ntmps - cargs.size) undef, defers := [] } :=
          ⟨argEnv_rel hr, hH, hB, by simp; omega, rfl, hl⟩
        refine hw ρ old w _ g0 (fun q hq τ m _ => hst q hq τ m) _ ?_
        have post : ∀ ρ' old' a' w', After d B H ρ old w (fun q => ∃ τ m, q = τ ++ m :: π ∧ 0 ≤ m ∧ m < s.k) s.H ρ' old' w' → Good d fn.ntmps B ρ' old' w' s.env s.H a' → (resOf s fm.res).map (fun r => (r, s.H)) = some (r, H') →
            a'.defers = [] ∧ ∃ v, (results fn a'.tmps).run P w' = .ok v w' ∧ CallPost d B H ρ old w r H' (fun q => ∃ τ m, q = τ ++ m :: π) (.returned v) w' := by
          intro ρ' old' a' w' ha g hres'
          rw [Option.map_eq_some_iff] at hres'
          obtain ⟨r', e1, e2⟩ := hres'
          cases e2
          rw [hrs] at e1
          obtain ⟨u, hu, hru⟩ := results_run g hres e1
          exact ⟨g.defers, u, hu, u, ρ', old', rfl, ha.keep, hru, g.heap, ha.below, fun q hq => (ha.news q hq).imp id fun ⟨τ, m, e, _⟩ => ⟨τ, m, e⟩, ha.av, ha.fr⟩
        intro ρ' old' a' w' ha g
        cases x with
        | nrm => exact post ρ' old' a' w' ha g h
        | ret => exact post ρ' old' a' w' ha g h
        | exit i => cases h

/-- A function that is handed values alone, and answers by a plain value. -/
theorem den_calls (hS : SpecOk P PP) (hF : FnsOk P PP) (hD : ∀ C, CallerOk P C → DrawOk P PP C) {k : Nat} {f : FuncId} {args : List AV} {x : Value} (h : den PP k f args = some (.v x)) {cargs : Array Value}
    (hr : RelL (ρ0 fun _ => False) old0 w args cargs.toList) : Calls P f cargs w fun e w' => e = .returned x ∧ Below w.heap.size w w' := by
  unfold den at h
  split at h <;> first | (cases h; done) | skip
  rename_i r H hrun
  split at h <;> first | (cases h; done) | skip
  have hrx : r = .v x := by
    cases r <;> simp only [packT, packA, packC] at h
    case v y => split at h <;> first | (cases h; done) | (cases h; rfl)
    all_goals (repeat' split at h)
    all_goals first | (cases h; done) | (rw [Option.map_eq_some_iff] at h; obtain ⟨_, _, h⟩ := h; cases h; done)
  subst hrx
  have hnil : HRel w.heap.size (ρ0 fun _ => False) old0 w [] := ⟨fun s blk hg => by simp [Heap.get] at hg, fun _ _ h => h.elim, fun s b z q e => by simp [ρ0] at e, fun s s' b z z' q q' e _ => by simp [ρ0] at e⟩
  refine ((runF_ok hS hF hD k) _ _ _ _ _ _ _ hrun (Low.nil 0) w.heap.size _ _ w cargs hr hnil (Nat.le_refl _) (fun q hq => hq.elim)).2.mono ?_
  rintro e w' ⟨u, ρ', old', he, _, hu, _, hb, _⟩
  simp only [RelV] at hu
  subst hu
  exact ⟨he, hb⟩
end
end Go.Proofs.Ytnphdnokedhhkaa.Fw
namespace Go.Proofs.Ytnphdnokedhhkaa.Fw
open Go Go.RowKit

theorem ev_same {e e2 : Env} : ∀ {x : Opd}, (∀ t ∈ x.tmps, e2.get t = e.get t) → x.ev e2 = x.ev e
  | .t n, h => h n (by simp [Opd.tmps])
  | .k _, _ => rfl
theorem evs_same {e e2 : Env} : ∀ {xs : List Opd}, (∀ t ∈ xs.flatMap Opd.tmps, e2.get t = e.get t) → Opd.evs e2 xs = Opd.evs e xs
  | [], _ => rfl
  | x :: r, h => by
    simp only [Opd.evs]
    rw [ev_same (x := x) fun t ht => h t (by simp [ht]), evs_same (xs := r) fun t ht => h t (by simp only [List.flatMap_cons, List.mem_append]; exact .inr ht)]
theorem optEv_same {e e2 : Env} : ∀ {x : Option Opd}, (∀ t ∈ optTmps x, e2.get t = e.get t) → optEv e2 x = optEv e x
  | none, _ => rfl
  | some x, h => by simp only [optEv]; rw [ev_same h]
theorem evParts_same {e e2 : Env} : ∀ {ps : List (Nat × Nat × Opd)}, (∀ t ∈ ps.flatMap (fun p => p.2.2.tmps), e2.get t = e.get t) → evParts e2 ps = evParts e ps
  | [], _ => rfl
  | (a, b, x) :: r, h => by
    simp only [evParts]
    rw [ev_same (x := x) fun t ht => h t (by simp [ht]), evParts_same (ps := r) fun t ht => h t (by simp only [List.flatMap_cons, List.mem_append]; exact .inr ht)]
theorem evPartsS_same {e e2 : Env} : ∀ {ps : List (Nat × Opd)}, (∀ t ∈ ps.flatMap (fun p => p.2.tmps), e2.get t = e.get t) → evPartsS e2 ps = evPartsS e ps
  | [], _ => rfl
  | (a, x) :: r, h => by
    simp only [evPartsS]
    rw [ev_same (x := x) fun t ht => h t (by simp [ht]), evPartsS_same (ps := r) fun t ht => h t (by simp only [List.flatMap_cons, List.mem_append]; exact .inr ht)]

theorem opSem_env {own : Site} {st : List Nat} {H : Heap} {e e2 : Env} : ∀ {m : MOp}, (∀ t ∈ m.uses, e2.get t = e.get t) → opSem own st m e2 H = opSem own st m e H
  | .mov x, h | .box _ _ x, h | .load _ _ x, h | .nilck x, h | .un _ x, h | .conv _ x, h | .faddr _ x, h | .field _ _ _ x, h | .ext x _, h => by
    simp only [opSem]; rw [ev_same (x := x) h]
  | .pick c a b, h => by
    simp only [MOp.uses, List.mem_append] at h
    simp only [opSem]
    rw [ev_same (x := c) fun t ht => h t (.inl (.inl ht)), ev_same (x := a) fun t ht => h t (.inl (.inr ht)), ev_same (x := b) fun t ht => h t (.inr ht)]
  | .alloc .., _ => rfl
  | .bad, _ => rfl
  | .build z ps, h => by simp only [opSem]; rw [evParts_same h]
  | .mkslice _ _ _ _ ps, h => by simp only [opSem]; rw [evPartsS_same h]
  | .store _ a x, h | .bin _ _ a x, h | .make _ _ _ _ a x, h | .iaddr _ _ a x, h | .index _ _ _ a x, h | .indexS a x, h | .append _ _ _ a x, h | .copy _ a x, h => by
    simp only [MOp.uses, List.mem_append] at h
    simp only [opSem]
    rw [ev_same (x := a) fun t ht => h t (.inl ht), ev_same (x := x) fun t ht => h t (.inr ht)]
  | .mkfn f a b, h => by
    simp only [MOp.uses, List.mem_append] at h
    simp only [opSem]
    rw [evs_same (xs := a) fun t ht => h t (.inl ht), evs_same (xs := b) fun t ht => h t (.inr ht)]
  | .slice z x l hh m, h => by
    simp only [MOp.uses, List.mem_append] at h
    simp only [opSem]
    rw [ev_same (x := x) fun t ht => h t (.inl (.inl (.inl ht))), optEv_same (x := l) fun t ht => h t (.inl (.inl (.inr ht))), optEv_same (x := hh) fun t ht => h t (.inl (.inr ht)), optEv_same (x := m) fun t ht => h t (.inr ht)]
  | .bi _ xs, h | .extern _ xs, h => by simp only [opSem]; rw [evs_same (xs := xs) h]
  | .call .., _ => rfl
  | .callv .., _ => rfl

theorem row_same {H H2 : Heap} {s : Site} (h : H2.get s = H.get s) (st : List Nat) : H2.row s st = H.row s st := by unfold Heap.row; rw [h]

theorem srcEls_same {H H2 : Heap} {x : AV} (h : ∀ s ∈ siteOf x, H2.get s = H.get s) : srcEls H2 x = srcEls H x := by
  cases x <;> first | rfl | skip
  case slc s st z off len full =>
    simp only [srcEls]
    rw [row_same (h s (by simp [siteOf]))]

/-- memory afterwards: what was written stands there, the rest as it was -/
def Lays (W : List Site) (H2 H' H2' : Heap) : Prop := ∀ s, H2'.get s = if s ∈ W then H'.get s else H2.get s

theorem Lays.nothing {H2 H' : Heap} : Lays [] H2 H' H2 := fun s => by simp
theorem Lays.set {H H2 : Heap} {W : List Site} {s : Site} {b : Blk} (hs : s ∈ W) (hW : ∀ x ∈ W, x ≠ s → H2.get x = H.get x) : Lays W H2 (H.set s b) (H2.set s b) := by
  intro x
  rw [Heap.get_set, Heap.get_set]
  by_cases h : s = x
  · subst h; simp [hs]
  · rw [if_neg h, if_neg h]
    by_cases hx : x ∈ W
    · rw [if_pos hx]; exact hW x hx (Ne.symm h)
    · rw [if_neg hx]

theorem Lays.same {W : List Site} {H2 H : Heap} (h : ∀ x ∈ W, H2.get x = H.get x) : Lays W H2 H H2 := fun x => by
  by_cases hx : x ∈ W
  · rw [if_pos hx]; exact h x hx
  · rw [if_neg hx]

theorem opSem_lays {P : Prog} {dd : Nat} {own : Site} {st : List Nat} {H H' H2 : Heap} {e : Env} {v : AV} {o : MO} {R : List Site} (h : opSem own st o.op e H = some (v, H')) (hR : footR P dd o e H = some R) (hs : ∀ s ∈ R, H2.get s = H.get s) :
    ∃ H2', opSem own st o.op e H2 = some (v, H2') ∧ Lays (footW P own o e H v) H2 H' H2' := by
  obtain ⟨dst, m, gd, pre⟩ := o
  simp only at h
  simp only [footR] at hR
  have one : ∀ (x : Site) (b : Blk), Lays [x] H2 (H.set x b) (H2.set x b) := fun x b => Lays.set (by simp) fun y hy hn => absurd (by simpa using hy) hn
  cases m
  case load agg n a =>
    simp only at hR; cases hR
    simp only [opSem] at h ⊢
    split at h
    · rename_i s st' i off ha
      rw [ha] at hs
      try simp only [ha]
      rw [row_same (hs s (by simp [siteOf]))]
      split at h
      · cases h
      · rename_i b hb
        try simp only [hb]
        split at h
        · cases h
        · rename_i cs hi
          try simp only [hi]
          rw [Option.map_eq_some_iff] at h
          obtain ⟨z, h1, h2⟩ := h
          cases h2
          exact ⟨H2, by simp [h1], Lays.nothing⟩
    · rename_i cs ha
      try simp only [ha]
      rw [Option.map_eq_some_iff] at h
      obtain ⟨z, h1, h2⟩ := h
      cases h2
      exact ⟨H2, by simp [h1], Lays.nothing⟩
    · cases h
  case store n a x =>
    simp only at hR; cases hR
    simp only [opSem] at h ⊢
    split at h
    · rename_i s st' i off ha
      rw [ha] at hs
      try simp only [ha]
      rw [row_same (hs s (by simp [siteOf]))]
      split at h
      · cases h
      · rename_i b hb
        try simp only [hb]
        split at h
        · cases h
        · rename_i cs hi
          try simp only [hi]
          split at h
          · rename_i hc
            rw [if_pos hc]
            cases h
            exact ⟨_, rfl, by simp only [footW, ha, siteOf]; exact one _ _⟩
          · cases h
    · cases h
  case append z bytes leaf a x =>
    simp only at hR; cases hR
    have hx : srcEls H2 (x.ev e) = srcEls H (x.ev e) := srcEls_same fun s h => hs s (by simp [h])
    simp only [opSem] at h ⊢
    rw [hx]
    split at h
    · cases h
    · rename_i new hnew
      try simp only [hnew]
      split at h
      · rename_i hc
        rw [if_pos hc]
        split at h
        · rename_i ha
          try simp only [ha]
          split at h
          · rename_i h0
            rw [if_pos h0]
            cases h
            exact ⟨_, rfl, one _ _⟩
          · rename_i h0
            rw [if_neg h0]
            split at h
            · rename_i h1
              rw [if_pos h1]
              cases h
              exact ⟨_, rfl, one _ _⟩
            · cases h
        · rename_i s' st' z' off len full ha
          rw [ha] at hs
          try simp only [ha]
          rw [row_same (hs s' (by simp [siteOf]))]
          split at h
          · rename_i h0
            rw [if_pos h0]
            split at h
            · rename_i hfl
              rw [if_pos hfl]
              cases h
              exact ⟨_, rfl, one _ _⟩
            · rename_i hfl
              rw [if_neg hfl]
              cases h
              exact ⟨H2, rfl, Lays.same fun y hy => hs y (by simp only [footW, siteOf] at hy; simp [siteOf]; exact .inr (.inl (by simpa using hy)))⟩
          · rename_i h0
            rw [if_neg h0]
            split at h
            · cases h
            · rename_i b hb
              try simp only [hb]
              split at h
              · rename_i h1
                rw [if_pos h1]
                split at h
                · rename_i h2
                  rw [if_pos h2]
                  cases h
                  exact ⟨_, rfl, one _ _⟩
                · rename_i h2
                  rw [if_neg h2]
                  split at h
                  · rename_i h3
                    rw [if_pos h3]
                    cases h
                    exact ⟨_, rfl, one _ _⟩
                  · cases h
              · cases h
        · cases h
      · cases h
  case copy z a x =>
    simp only at hR; cases hR
    have hx : srcEls H2 (x.ev e) = srcEls H (x.ev e) := srcEls_same fun s h => hs s (by simp [h])
    simp only [opSem] at h ⊢
    rw [hx]
    split at h
    · cases h
    · rename_i new hnew
      try simp only [hnew]
      split at h
      · rename_i s' st' z' off len full ha
        rw [ha] at hs
        try simp only [ha]
        rw [row_same (hs s' (by simp [siteOf]))]
        split at h
        · cases h
        · rename_i b hb
          try simp only [hb]
          split at h
          · rename_i h1
            rw [if_pos h1]
            cases h
            exact ⟨_, rfl, by simp only [footW, ha, siteOf]; exact one _ _⟩
          · cases h
      · cases h
  case alloc => simp only [opSem] at h ⊢; cases h; exact ⟨_, rfl, one _ _⟩
  case box =>
    simp only [opSem] at h ⊢
    split at h
    · rename_i hc; rw [if_pos hc]; cases h; exact ⟨_, rfl, one _ _⟩
    · cases h
  case mkslice =>
    simp only [opSem] at h ⊢
    split at h
    · cases h
    · rename_i els he
      try simp only [he]
      split at h
      · rename_i hc; rw [if_pos hc]; cases h; exact ⟨_, rfl, one _ _⟩
      · cases h
  case make =>
    simp only [opSem] at h ⊢
    split at h
    · rename_i h1 h2
      try simp only [h1, h2]
      split at h
      · rename_i hc; rw [if_pos hc]; cases h; exact ⟨_, rfl, one _ _⟩
      · cases h
    · cases h
  case call => simp only [opSem] at h; cases h
  case callv => simp only [opSem] at h; cases h
  case bad => simp only [opSem] at h; cases h
  case mov => simp only [opSem] at h ⊢; cases h; exact ⟨_, rfl, Lays.nothing⟩
  case mkfn => simp only [opSem] at h ⊢; cases h; exact ⟨_, rfl, Lays.nothing⟩
  all_goals
    simp only [opSem] at h ⊢
    (repeat' split at h)
    all_goals first
      | (cases h; done)
      | (rw [Option.map_eq_some_iff] at h; obtain ⟨z, h1, h2⟩ := h; cases h2; exact ⟨H2, by simp [*], Lays.nothing⟩)
      | (cases h; exact ⟨H2, by simp [*], Lays.nothing⟩)

/-! ### handing values over -/
theorem optList_same {α β : Type} {f g : α → Option β} : ∀ {l : List α}, (∀ x ∈ l, f x = g x) → optList f l = optList g l
  | [], _ => rfl
  | x :: r, h => by
    simp only [optList]
    rw [h x (by simp), optList_same (l := r) fun y hy => h y (by simp [hy])]

theorem freeze_same {H H2 : Heap} : ∀ (n : Nat) (x : AV), (∀ s ∈ freezeR H n x, H2.get s = H.get s) → freeze H2 n x = freeze H n x
  | 0, _, _ => rfl
  | n + 1, x, h => by
    have many : ∀ l : List AV, (∀ s ∈ l.flatMap (freezeR H n), H2.get s = H.get s) → optList (freeze H2 n) l = optList (freeze H n) l := fun l hl =>
      optList_same fun y hy => freeze_same n y fun s hs => hl s (List.mem_flatMap.2 ⟨y, hy, hs⟩)
    cases x <;> first | rfl | skip
    case ptr s st i off =>
      simp only [freezeR, List.mem_cons] at h
      have h0 := h s (.inl rfl)
      simp only [freeze]
      rw [row_same h0]
      split
      · rfl
      · rename_i b hb
        simp only [hb] at h
        split
        · rfl
        · rename_i cs hi
          simp only [hi] at h
          split
          · rfl
          · rename_i hl
            rw [if_neg hl] at h
            rw [many _ fun y hy => h y (.inr hy)]
    case slc s st z off len full =>
      simp only [freezeR, List.mem_cons] at h
      have h0 := h s (.inl rfl)
      simp only [freeze]
      rw [row_same h0]
      split
      · rfl
      · rename_i b hb
        simp only [hb] at h
        split
        · split
          · rfl
          · rename_i hl
            rw [if_neg hl] at h
            rw [optList_same (f := optList (freeze H2 n)) (g := optList (freeze H n)) fun cs hcs => many cs fun y hy => h y (.inr (List.mem_flatMap.2 ⟨cs, hcs, hy⟩))]
        · rfl
    case agg cs => simp only [freezeR] at h; simp only [freeze]; rw [many cs h]
    case tup cs => simp only [freezeR] at h; simp only [freeze]; rw [many cs h]
    case fn f a b =>
      simp only [freezeR, List.mem_append] at h
      simp only [freeze]
      rw [many a fun y hy => h y (.inl hy), many b fun y hy => h y (.inr hy)]

theorem freezes_same {H H2 : Heap} {l : List AV} (h : ∀ s ∈ l.flatMap (freezeR H 8), H2.get s = H.get s) : optList (freeze H2 8) l = optList (freeze H 8) l :=
  optList_same fun y hy => freeze_same 8 y fun s hs => h s (List.mem_flatMap.2 ⟨y, hy, hs⟩)

def Laid (W : List Site) (f : Heap → Heap) : Prop := ∀ G G0, Lays W G (f G0) (f G)
theorem Laid.id : Laid [] id := fun G G0 => Lays.nothing
theorem Laid.one (s : Site) (b : Blk) : Laid [s] (fun G => G.set s b) := fun G G0 => Lays.set (by simp) fun y hy hn => absurd (by simpa using hy) hn
theorem Laid.comp {V W : List Site} {f g : Heap → Heap} (hf : Laid V f) (hg : Laid W g) : Laid (V ++ W) (fun G => g (f G)) := by
  intro G G0 s
  show (g (f G)).get s = _
  have a := hg (f G) (f G0) s
  have b := hg (f G0) (f G0) s
  have c := hf G G0 s
  by_cases hs : s ∈ W
  · rw [if_pos (by simp [hs])]
    rw [if_pos hs] at a
    exact a
  · rw [if_neg hs] at a b
    rw [a, c]
    by_cases hv : s ∈ V
    · rw [if_pos hv, if_pos (by simp [hv])]
      exact b.symm
    · rw [if_neg hv, if_neg (by simp [hs, hv])]

theorem dry_refs (x : AV) (h : x.dry = true) : x.refs = [] := by cases x <;> simp_all [AV.dry, AV.refs]
theorem dryL_refs : ∀ l : List AV, dryL l = true → AV.refsL l = []
  | [], _ => by simp only [AV.refsL]
  | a :: r, h => by
    simp only [dryL, Bool.and_eq_true] at h
    simp only [AV.refsL, dry_refs a h.1, dryL_refs r h.2, List.append_nil]
end Go.Proofs.Ytnphdnokedhhkaa.Fw
namespace Go.Proofs.Ytnphdnokedhhkaa.Fw
open Go Go.RowKit

def Packed (x : AV) : Prop := (∃ z els leaf, x = .own z els leaf) ∨ (∃ cs leaf, x = .ownp cs leaf) ∨ (x.dry = true)

theorem packC_packed {d : Nat} {H : Heap} {x y : AV} (h : packC true d H x = some y) : Packed y := by
  cases x <;> simp only [packC, Bool.true_and] at h
  case slc s st z off len full =>
    split at h
    · split at h
      · cases h
      · split at h
        · cases h; exact .inl ⟨_, _, _, rfl⟩
        · cases h
    · cases h
  case ptr s st i off =>
    split at h
    · split at h
      · cases h
      · split at h
        · split at h
          · cases h; exact .inr (.inl ⟨_, _, rfl⟩)
          · cases h
        · cases h
    · cases h
  all_goals first
    | (cases h; done)
    | (split at h
       · cases h
       · rename_i hd; cases h; exact .inr (.inr (by simpa using hd)))

theorem optList_mem {α β : Type} {f : α → Option β} : ∀ {l : List α} {r : List β}, optList f l = some r → ∀ y ∈ r, ∃ x ∈ l, f x = some y
  | [], r, h, y, hy => by simp only [optList] at h; cases h; simp at hy
  | x :: l, r, h, y, hy => by
    obtain ⟨z, zs, e1, e2, rfl⟩ := optList_cons h
    rcases List.mem_cons.1 hy with rfl | hy
    · exact ⟨x, by simp, e1⟩
    · obtain ⟨x', h1, h2⟩ := optList_mem e2 y hy
      exact ⟨x', by simp [h1], h2⟩

def Packed2 (x : AV) : Prop := (∃ cs, x = .agg cs ∧ ∀ c ∈ cs, Packed c) ∨ Packed x
theorem packA_packed {d : Nat} {H : Heap} {x y : AV} (h : packA true d H x = some y) : Packed2 y := by
  unfold packA at h
  split at h
  · rw [Option.map_eq_some_iff] at h
    obtain ⟨l, h1, rfl⟩ := h
    refine .inl ⟨l, rfl, fun c hc => ?_⟩
    obtain ⟨x, _, hx⟩ := optList_mem h1 c hc
    exact packC_packed hx
  · exact .inr (packC_packed h)
def Packed3 (x : AV) : Prop := (∃ cs, x = .tup cs ∧ ∀ c ∈ cs, Packed2 c) ∨ Packed2 x
theorem packT_packed {d : Nat} {H : Heap} {x y : AV} (h : packT true d H x = some y) : Packed3 y := by
  unfold packT at h
  split at h
  · rw [Option.map_eq_some_iff] at h
    obtain ⟨l, h1, rfl⟩ := h
    refine .inl ⟨l, rfl, fun c hc => ?_⟩
    obtain ⟨x, _, hx⟩ := optList_mem h1 c hc
    exact packA_packed hx
  · exact .inr (packA_packed h)

theorem packed_refs {x : AV} (h : Packed x) : x.refs = [] := by
  rcases h with ⟨z, els, leaf, rfl⟩ | ⟨cs, leaf, rfl⟩ | h
  · simp only [AV.refs]
  · simp only [AV.refs]
  · exact dry_refs x h
theorem refsL_nil {l : List AV} (h : ∀ x ∈ l, x.refs = []) : AV.refsL l = [] := by
  induction l with
  | nil => simp only [AV.refsL]
  | cons x r ih => simp only [AV.refsL]; rw [h x (by simp), ih fun y hy => h y (by simp [hy])]; rfl
theorem packed2_refs {x : AV} (h : Packed2 x) : x.refs = [] := by
  rcases h with ⟨cs, rfl, hc⟩ | h
  · simp only [AV.refs]; exact refsL_nil fun c hx => packed_refs (hc c hx)
  · exact packed_refs h
theorem packed3_refs {x : AV} (h : Packed3 x) : x.refs = [] := by
  rcases h with ⟨cs, rfl, hc⟩ | h
  · simp only [AV.refs]; exact refsL_nil fun c hx => packed2_refs (hc c hx)
  · exact packed2_refs h

/-- what is put in its place: which places that sets -/
def Thaws (F : Nat → Heap → AV → AV × Nat × Heap) (x : AV) : Prop :=
  ∀ j, ∃ y j' f W, (∀ H, F j H x = (y, j', f H)) ∧ Laid W f ∧ (∀ s ∈ W, s ∈ y.refs) ∧ ∀ s ∈ y.refs, s ∈ W ∨ s ∈ x.refs

theorem thawC_thaws (d t : Nat) (st : List Nat) (x : AV) : Thaws (thawC d t st) x := by
  intro j
  cases x
  case own z els leaf => exact ⟨_, _, fun G => G.set ⟨d, t, j⟩ ⟨(j + 1) :: st, els, z, leaf⟩, [⟨d, t, j⟩], fun H => rfl, Laid.one _ _, fun s hs => by simpa only [AV.refs] using hs, fun s hs => .inl (by simpa only [AV.refs] using hs)⟩
  case ownp cs leaf => exact ⟨_, _, fun G => G.set ⟨d, t, j⟩ ⟨(j + 1) :: st, [cs], cs.length, leaf⟩, [⟨d, t, j⟩], fun H => rfl, Laid.one _ _, fun s hs => by simpa only [AV.refs] using hs, fun s hs => .inl (by simpa only [AV.refs] using hs)⟩
  all_goals exact ⟨_, j, id, [], fun H => rfl, Laid.id, fun s hs => by simp at hs, fun s hs => .inr hs⟩

theorem thawL_thaws {F : Nat → Heap → AV → AV × Nat × Heap} (hF : ∀ x, Thaws F x) : ∀ (l : List AV) (j : Nat), ∃ ys j' f W, (∀ H, thawL F j H l = (ys, j', f H)) ∧ Laid W f ∧ (∀ s ∈ W, s ∈ AV.refsL ys) ∧ ∀ s ∈ AV.refsL ys, s ∈ W ∨ s ∈ AV.refsL l
  | [], j => ⟨[], j, id, [], fun H => rfl, Laid.id, fun s hs => by simp at hs, fun s hs => .inr hs⟩
  | x :: r, j => by
    obtain ⟨y, j1, f, V, h1, h2, h2a, h2b⟩ := hF x j
    obtain ⟨ys, j2, g, W, h3, h4, h4a, h4b⟩ := thawL_thaws hF r j1
    refine ⟨y :: ys, j2, fun G => g (f G), V ++ W, fun H => by simp only [thawL, h1, h3], h2.comp h4, fun s hs => ?_, fun s hs => ?_⟩
    · simp only [AV.refsL, List.mem_append] at hs ⊢
      exact hs.imp (h2a s) (h4a s)
    · simp only [AV.refsL, List.mem_append] at hs ⊢
      rcases hs with hs | hs
      · rcases h2b s hs with h | h
        · exact .inl (.inl h)
        · exact .inr (.inl h)
      · rcases h4b s hs with h | h
        · exact .inl (.inr h)
        · exact .inr (.inr h)

theorem thawA_thaws (d t : Nat) (st : List Nat) (x : AV) : Thaws (thawA d t st) x := by
  by_cases hx : ∃ cs, x = .agg cs
  · obtain ⟨cs, rfl⟩ := hx
    intro j
    obtain ⟨ys, j', f, W, h1, h2, h3, h4⟩ := thawL_thaws (thawC_thaws d t st) cs j
    exact ⟨.agg ys, j', f, W, fun H => by simp only [thawA, h1], h2, fun s hs => by simp only [AV.refs]; exact h3 s hs, fun s hs => by simp only [AV.refs] at hs ⊢; exact h4 s hs⟩
  · intro j
    obtain ⟨y, j', f, W, h1, h2⟩ := thawC_thaws d t st x j
    refine ⟨y, j', f, W, fun H => ?_, h2⟩
    rw [← h1 H]
    cases x <;> first | rfl | exact absurd ⟨_, rfl⟩ hx

theorem thawT_thaws (d t : Nat) (st : List Nat) (x : AV) : ∃ y f W, (∀ H, thawT d t st H x = (y, f H)) ∧ Laid W f ∧ (∀ s ∈ W, s ∈ y.refs) ∧ ∀ s ∈ y.refs, s ∈ W ∨ s ∈ x.refs := by
  by_cases hx : ∃ cs, x = .tup cs
  · obtain ⟨cs, rfl⟩ := hx
    obtain ⟨ys, j', f, W, h1, h2, h3, h4⟩ := thawL_thaws (thawA_thaws d t st) cs 0
    exact ⟨.tup ys, f, W, fun H => by simp only [thawT, h1], h2, fun s hs => by simp only [AV.refs]; exact h3 s hs, fun s hs => by simp only [AV.refs] at hs ⊢; exact h4 s hs⟩
  · obtain ⟨y, j', f, W, h1, h2⟩ := thawA_thaws d t st x 0
    refine ⟨y, f, W, fun H => ?_, h2⟩
    cases x <;> first | (simp only [thawT, h1]; done) | exact absurd ⟨_, rfl⟩ hx

theorem Laid.congr {V W : List Site} {f : Heap → Heap} (h : Laid V f) (e : ∀ s, s ∈ V ↔ s ∈ W) : Laid W f := fun G G0 s => by
  rw [h G G0 s]
  by_cases hs : s ∈ V
  · rw [if_pos hs, if_pos ((e s).1 hs)]
  · rw [if_neg hs, if_neg (fun hw => hs ((e s).2 hw))]

theorem flatA_refs {x : AV} (h : flatA x = true) : x.refs = [] := by
  unfold flatA at h
  split at h
  · simp only [AV.refs, dryL_refs _ h]
  · exact dry_refs x h
theorem flatAs_refs : ∀ {l : List AV}, flatAs l = true → AV.refsL l = []
  | [], _ => by simp only [AV.refsL]
  | x :: r, h => by
    simp only [flatAs, Bool.and_eq_true] at h
    simp only [AV.refsL, flatA_refs h.1, flatAs_refs h.2, List.append_nil]
theorem flatT_refs {x : AV} (h : flatT x = true) : x.refs = [] := by
  unfold flatT at h
  split at h
  · simp only [AV.refs, flatAs_refs h]
  · exact flatA_refs h

section
variable {PP : Prog} {C : Caller} {d t : Nat} {st : List Nat} {H H' H2 : Heap} {v : AV} {e e2 : Env} {o : MO} {R : List Site}

theorem callIn_lays {f : FuncId} {args : List AV} (h : callIn PP C false d t st f args H = some (v, H')) (hs : ∀ s ∈ args.flatMap (freezeR H 8), H2.get s = H.get s) :
    ∃ H2', callIn PP C false d t st f args H2 = some (v, H2') ∧ Lays v.refs H2 H' H2' := by
  unfold callIn at h ⊢
  rw [freezes_same hs]
  split at h
  · rename_i g hg
    split at h
    · cases h
    · rename_i as has
      split at h
      · cases h
      · rename_i r hr
        split at h
        · rename_i hf
          obtain ⟨y, g, W, h1, h2, h3, h4⟩ := thawT_thaws d t st r
          have h2 := h2.congr (W := y.refs) fun s => ⟨h3 s, fun hs => (h4 s hs).elim id fun hx => by rw [List.isEmpty_iff.1 hf] at hx; cases hx⟩
          rw [h1 H] at h
          cases h
          refine ⟨g H2, ?_, h2 H2 H⟩
          simp only [if_pos hf, h1]
        · cases h
  · rw [if_neg (by simp)] at h
    split at h
    · cases h
    · rename_i as has
      split at h
      · cases h
      · rename_i r H1 hr
        split at h
        · rename_i hd
          split at h
          · cases h
          · rename_i r' hp
            obtain ⟨y, g, W, h1, h2, h3, h4⟩ := thawT_thaws d t st r'
            have h2 := h2.congr (W := y.refs) fun s => ⟨h3 s, fun hs => (h4 s hs).elim id fun hx => by rw [packed3_refs (packT_packed hp)] at hx; cases hx⟩
            rw [h1 H] at h
            cases h
            refine ⟨g H2, ?_, h2 H2 H⟩
            simp only [if_pos hd, hp, h1, Bool.false_eq_true, if_false]
        · cases h

theorem callIn_lays_inl {f : FuncId} {args : List AV} (hsp : PP.spec f = none) (h : callIn PP C true d t st f args H = some (v, H')) (hs : ∀ s ∈ handed H args, H2.get s = H.get s) :
    ∃ H2', callIn PP C true d t st f args H2 = some (v, H2') ∧ Lays (handed H args ++ v.refs) H2 H' H2' := by
  unfold callIn at h ⊢
  rw [hsp] at h ⊢
  simp only [if_true] at h ⊢
  rw [handed_same hs, cutH_same hs]
  split at h
  · cases h
  · rename_i r H1 hr
    split at h <;> first | (cases h; done) | skip
    rename_i hd
    split at h
    · cases h
    · rename_i r' hp
      split at h <;> first | (cases h; done) | skip
      rename_i hin
      split at h
      · cases h
      · rename_i Ht hput
        obtain ⟨Ht2, hput2⟩ := putBack_any H2 hput
        obtain ⟨y, g, W, h1, h2, h3, h4⟩ := thawT_thaws d t st r'
        rw [h1 Ht] at h
        cases h
        refine ⟨g Ht2, ?_, fun s => ?_⟩
        · simp only [if_pos hd, hin, if_true, hput2, h1]
        · have a := h2 Ht2 Ht s
          have b := h2 Ht Ht s
          have c := putBack_get (x := s) hput
          have c2 := putBack_get (x := s) hput2
          by_cases hw : s ∈ W
          · rw [if_pos hw] at a
            rw [a, if_pos (List.mem_append_right _ (h3 s hw))]
          · rw [if_neg hw] at a b
            rw [a, c2]
            by_cases hG : s ∈ Heap.at (cutH H (handed H args))
            · rw [if_pos hG] at c ⊢
              have hh : s ∈ handed H args := by
                obtain ⟨b0, hb0⟩ := mem_at.1 hG
                rw [get_cutH] at hb0
                split at hb0
                · assumption
                · cases hb0
              rw [if_pos (List.mem_append_left _ hh), b, c]
            · rw [if_neg hG] at c ⊢
              by_cases hm : s ∈ handed H args ++ v.refs
              · rw [if_pos hm, b, c]
                rcases List.mem_append.1 hm with hh | hy
                · exact hs s hh
                · rcases h4 s hy with h | h
                  · exact absurd h hw
                  · exfalso
                    have := List.all_eq_true.1 hin s h
                    obtain ⟨b0, hb0⟩ := Option.isSome_iff_exists.1 this
                    exact hG (mem_at.2 ⟨b0, hb0⟩)
              · rw [if_neg hm]

theorem inlOf_spec {f : FuncId} (h : inlOf PP f = true) : PP.spec f = none := by
  unfold inlOf at h
  split at h
  · cases h
  · assumption

def ownOf (d : Nat) (o : MO) (H : Heap) : Site := ⟨d, o.dst.getD 0, match o.op with | .append .. => altOf d o.dst H | _ => 0⟩
theorem ownOf_same (hR : footR PP d o e H = some R) (hs : ∀ s ∈ R, H2.get s = H.get s) : ownOf d o H2 = ownOf d o H := by
  obtain ⟨dst, m, gd, pre⟩ := o
  cases m <;> first | rfl | skip
  simp only [footR] at hR
  cases hR
  simp only [ownOf, altOf]
  rw [hs _ (List.mem_cons_self ..)]
theorem footW_own : footW PP (ownOf d o H2) o e H v = footW PP ⟨d, o.dst.getD 0, 0⟩ o e H v := by
  obtain ⟨dst, m, gd, pre⟩ := o
  cases m <;> rfl
theorem stepOp_lays (h : stepOp PP C d st o e H = some (v, H')) (hR : footR PP d o e H = some R) (he : ∀ t ∈ o.op.uses, e2.get t = e.get t) (hs : ∀ s ∈ R, H2.get s = H.get s) :
    ∃ H2', stepOp PP C d st o e2 H2 = some (v, H2') ∧ Lays (footW PP ⟨d, o.dst.getD 0, 0⟩ o e H v) H2 H' H2' := by
  cases hc : isCall o.op with
  | true =>
    obtain ⟨dst, m, gd, pre⟩ := o
    simp only at he hc
    cases m <;> first | (cases hc; done) | skip
    case call f xs =>
      simp only [stepOp] at h ⊢
      simp only [footR] at hR
      simp only [footW]
      rw [evs_same (xs := xs) (by simpa only [MOp.uses] using he)]
      cases hi : inlOf PP f with
      | true =>
        rw [hi] at h hR
        simp only [if_true] at hR ⊢
        cases hR
        exact callIn_lays_inl (inlOf_spec hi) h hs
      | false =>
        rw [hi] at h hR
        simp only [Bool.false_eq_true, if_false, List.nil_append] at hR ⊢
        cases hR
        exact callIn_lays h hs
    case callv x xs =>
      simp only [stepOp] at h ⊢
      simp only [footR] at hR
      simp only [footW]
      simp only [MOp.uses, List.mem_append] at he
      rw [ev_same (x := x) fun t ht => he t (.inl ht), evs_same (xs := xs) fun t ht => he t (.inr ht)]
      split at h
      · rename_i f a b hx
        rw [hx] at hR
        simp only at hR
        try simp only [hx]
        cases hi : inlOf PP f with
        | true =>
          rw [hi] at h hR
          simp only [if_true] at hR ⊢
          cases hR
          exact callIn_lays_inl (inlOf_spec hi) h hs
        | false =>
          rw [hi] at h hR
          simp only [Bool.false_eq_true, if_false, List.nil_append] at hR ⊢
          cases hR
          exact callIn_lays h hs
      · cases h
  | false =>
    have eq : ∀ e H, stepOp PP C d st o e H = opSem (ownOf d o H) st o.op e H := by
      intro e H
      obtain ⟨dst, m, gd, pre⟩ := o
      cases m <;> first | rfl | cases hc
    rw [eq] at h
    obtain ⟨H2', h1, h2⟩ := opSem_lays h hR hs
    rw [footW_own] at h2
    exact ⟨H2', by rw [eq, opSem_env he, ownOf_same hR hs]; exact h1, h2⟩
end
end Go.Proofs.Ytnphdnokedhhkaa.Fw
namespace Go.Proofs.Ytnphdnokedhhkaa.Fw
open Go Go.RowKit

/-- what stands in a place when the operations of 'X' have been carried out -/
def siteAt (X : Nat → Bool) (x : Site) : Nat → List Tr → Option Blk → Option Blk
  | _, [], b => b
  | i, a :: r, b => siteAt X x (i + 1) r (if X i = true ∧ x ∈ a.W then a.H'.get x else b)
def envAt (X : Nat → Bool) (t : Nat) : Nat → List Tr → AV → AV
  | _, [], v => v
  | i, a :: r, v => envAt X t (i + 1) r (if X i = true ∧ a.mo.dst = some t then a.v else v)

theorem siteAt_congr {X Y : Nat → Bool} {x : Site} : ∀ (l : List Tr) (i : Nat) (b : Option Blk), (∀ j a, l[j]? = some a → x ∈ a.W → X (i + j) = Y (i + j)) → siteAt X x i l b = siteAt Y x i l b
  | [], _, _, _ => rfl
  | a :: r, i, b, h => by
    simp only [siteAt]
    have h0 := h 0 a rfl
    have : (if X i = true ∧ x ∈ a.W then a.H'.get x else b) = (if Y i = true ∧ x ∈ a.W then a.H'.get x else b) := by
      by_cases hx : x ∈ a.W
      · have := h0 hx; simp only [Nat.add_zero] at this; rw [this]
      · simp [hx]
    rw [this]
    exact siteAt_congr r (i + 1) _ fun j c hc hx => by have := h (j + 1) c (by simpa using hc) hx; rw [show i + 1 + j = i + (j + 1) by omega]; exact this
theorem envAt_congr {X Y : Nat → Bool} {t : Nat} : ∀ (l : List Tr) (i : Nat) (b : AV), (∀ j a, l[j]? = some a → a.mo.dst = some t → X (i + j) = Y (i + j)) → envAt X t i l b = envAt Y t i l b
  | [], _, _, _ => rfl
  | a :: r, i, b, h => by
    simp only [envAt]
    have h0 := h 0 a rfl
    have : (if X i = true ∧ a.mo.dst = some t then a.v else b) = (if Y i = true ∧ a.mo.dst = some t then a.v else b) := by
      by_cases hx : a.mo.dst = some t
      · have := h0 hx; simp only [Nat.add_zero] at this; rw [this]
      · simp [hx]
    rw [this]
    exact envAt_congr r (i + 1) _ fun j c hc hx => by have := h (j + 1) c (by simpa using hc) hx; rw [show i + 1 + j = i + (j + 1) by omega]; exact this
theorem siteAt_none {X : Nat → Bool} {x : Site} : ∀ (l : List Tr) (i : Nat) (b : Option Blk), (∀ j, i ≤ j → X j = false) → siteAt X x i l b = b
  | [], _, _, _ => rfl
  | a :: r, i, b, h => by
    simp only [siteAt, h i (Nat.le_refl _), Bool.false_eq_true, false_and, if_false]
    exact siteAt_none r (i + 1) b fun j hj => h j (by omega)
theorem envAt_none {X : Nat → Bool} {t : Nat} : ∀ (l : List Tr) (i : Nat) (b : AV), (∀ j, i ≤ j → X j = false) → envAt X t i l b = b
  | [], _, _, _ => rfl
  | a :: r, i, b, h => by
    simp only [envAt, h i (Nat.le_refl _), Bool.false_eq_true, false_and, if_false]
    exact envAt_none r (i + 1) b fun j hj => h j (by omega)

section
variable {P : Program} {PP : Prog} {C : Caller} {d : Nat} {π : List Nat}

/-- an entry of a trace says what happened -/
structure TrOk (PP : Prog) (C : Caller) (d : Nat) (st : List Nat) (a : Tr) : Prop where
  guard : guardOf a.e a.mo.guard = some a.on
  off : a.on = false → a.v = .v undef ∧ a.W = [] ∧ a.H' = a.H
  foot : a.on = true → footR PP d a.mo a.e a.H = some a.R
  step : a.on = true → stepOp PP C d st a.mo a.e a.H = some (a.v, a.H')
  writes : a.on = true → a.W = footW PP ⟨d, a.mo.dst.getD 0, 0⟩ a.mo a.e a.H a.v

theorem TrOk.lays {st : List Nat} {a : Tr} (h : TrOk PP C d st a) (x : Site) : (if x ∈ a.W then a.H'.get x else a.H.get x) = a.H'.get x := by
  cases ho : a.on with
  | false => obtain ⟨_, h2, h3⟩ := h.off ho; rw [h2, h3]; simp
  | true =>
    obtain ⟨G, h1, h2⟩ := stepOp_lays (H2 := a.H) (e2 := a.e) (h.step ho) (h.foot ho) (fun _ _ => rfl) (fun _ _ => rfl)
    rw [h.step ho] at h1
    cases h1
    have := h2 x
    rw [← h.writes ho] at this
    exact this.symm

theorem get_putD (e : Env) (dst : Option Nat) (v : AV) (t : Nat) : (putD e dst v).get t = if dst = some t then v else e.get t := by
  cases dst with
  | none => simp [putD]
  | some k => simp [putD, Env.get]

def hBefore (tr : List Tr) (s' : St) (m : Nat) : Heap := match tr[m]? with | some a => a.H | none => s'.H
def eBefore (tr : List Tr) (s' : St) (m : Nat) : Env := match tr[m]? with | some a => a.e | none => s'.env

theorem evTrace_facts : ∀ (l : List MO) (s s' : St) (tr : List Tr), evTrace PP C d π l s = some (tr, s') → tr.length = l.length ∧ s'.k = s.k + l.length ∧ (∀ j a, tr[j]? = some a → l[j]? = some a.mo ∧ TrOk PP C d ((s.k + j) :: π) a) ∧
    (∀ i m x, siteAt (fun j => decide (j < i + m)) x i tr (s.H.get x) = (hBefore tr s' m).get x) ∧ (∀ i m t, envAt (fun j => decide (j < i + m)) t i tr (s.env.get t) = (eBefore tr s' m).get t)
  | [], s, s', tr, h => by
    simp only [evTrace] at h; cases h
    exact ⟨rfl, rfl, fun j a h => by simp at h, fun i m x => rfl, fun i m t => rfl⟩
  | o :: r, s, s', tr, h => by
    have key : ∀ (a : Tr) (s1 : St) (tr1 : List Tr), a.mo = o → a.e = s.env → a.H = s.H → TrOk PP C d (s.k :: π) a → s1 = ⟨putD s.env o.dst a.v, a.H', s.k + 1⟩ → evTrace PP C d π r s1 = some (tr1, s') → tr = a :: tr1 →
        tr.length = (o :: r).length ∧ s'.k = s.k + (o :: r).length ∧ (∀ j a, tr[j]? = some a → (o :: r)[j]? = some a.mo ∧ TrOk PP C d ((s.k + j) :: π) a) ∧
        (∀ i m x, siteAt (fun j => decide (j < i + m)) x i tr (s.H.get x) = (hBefore tr s' m).get x) ∧ (∀ i m t, envAt (fun j => decide (j < i + m)) t i tr (s.env.get t) = (eBefore tr s' m).get t) := by
      intro a s1 tr1 hmo he hH hok hs1 htr htr2
      subst htr2
      obtain ⟨h1, h2, h3, h4, h5⟩ := evTrace_facts r s1 s' tr1 htr
      refine ⟨by simp [h1], by rw [h2, hs1]; simp; omega, fun j b hb => ?_, fun i m x => ?_, fun i m t => ?_⟩
      · cases j with
        | zero => simp at hb; subst hb; exact ⟨by simp [hmo], hok⟩
        | succ j =>
          obtain ⟨q1, q2⟩ := h3 j b (by simpa using hb)
          refine ⟨by simpa using q1, ?_⟩
          rw [hs1] at q2
          simpa [Nat.add_assoc, Nat.add_comm 1 j] using q2
      · cases m with
        | zero =>
          rw [siteAt_none _ _ _ fun j hj => by simp; omega]
          simp [hBefore, hH]
        | succ m =>
          simp only [siteAt]
          have e1 : (if decide (i < i + (m + 1)) = true ∧ x ∈ a.W then a.H'.get x else s.H.get x) = s1.H.get x := by
            rw [← hH, hs1]
            simp only [show decide (i < i + (m + 1)) = true by simp, true_and]
            exact hok.lays x
          rw [e1]
          have := h4 (i + 1) m x
          rw [show (fun j => decide (j < i + (m + 1))) = fun j => decide (j < i + 1 + m) by funext j; congr 1; apply propext; omega]
          rw [this]
          simp [hBefore]
      · cases m with
        | zero =>
          rw [envAt_none _ _ _ fun j hj => by simp; omega]
          simp [eBefore, he]
        | succ m =>
          simp only [envAt]
          have e1 : (if decide (i < i + (m + 1)) = true ∧ a.mo.dst = some t then a.v else s.env.get t) = s1.env.get t := by
            rw [hs1]
            simp only [show decide (i < i + (m + 1)) = true by simp, true_and, get_putD, hmo]
          rw [e1]
          have := h5 (i + 1) m t
          rw [show (fun j => decide (j < i + (m + 1))) = fun j => decide (j < i + 1 + m) by funext j; congr 1; apply propext; omega]
          rw [this]
          simp [eBefore]
    simp only [evTrace] at h
    cases hg : guardOf s.env o.guard with
    | none => rw [hg] at h; cases h
    | some b =>
      rw [hg] at h
      cases b with
      | false =>
        simp only at h
        split at h
        · cases h
        · rename_i l1 s1 h1
          cases h
          exact key _ _ _ rfl rfl rfl ⟨hg, fun _ => ⟨rfl, rfl, rfl⟩, fun h => (by cases h), fun h => (by cases h), fun h => (by cases h)⟩ rfl h1 rfl
      | true =>
        simp only at h
        split at h
        · cases h
        · rename_i R hR
          split at h
          · cases h
          · rename_i v H1 hs
            split at h
            · cases h
            · rename_i l1 s1 h1
              cases h
              exact key _ _ _ rfl rfl rfl ⟨hg, fun h => (by cases h), fun _ => hR, fun _ => hs, fun _ => rfl⟩ rfl h1 rfl

theorem indepAt_at {a : Tr} {i : Nat} : ∀ {l : List Tr}, indepAt a i l = true → ∀ b ∈ l, i ∈ b.mo.pre ∨ a.clear b = true
  | [], _, b, hb => by simp at hb
  | c :: r, h, b, hb => by
    simp only [indepAt, Bool.and_eq_true, Bool.or_eq_true, decide_eq_true_eq] at h
    rcases List.mem_cons.1 hb with rfl | hb
    · exact h.1
    · exact indepAt_at h.2 b hb
theorem indep_at : ∀ {l : List Tr} {k : Nat}, indep k l = true → ∀ i j a b, i < j → l[i]? = some a → l[j]? = some b → k + i ∈ b.mo.pre ∨ a.clear b = true
  | [], k, h, i, j, a, b, hij, ha, hb => by simp at ha
  | c :: r, k, h, i, j, a, b, hij, ha, hb => by
    simp only [indep, Bool.and_eq_true] at h
    cases j with
    | zero => omega
    | succ j =>
      have hb' : r[j]? = some b := by simpa using hb
      cases i with
      | zero =>
        simp at ha; subst ha
        exact indepAt_at h.1 b (List.mem_of_getElem? hb')
      | succ i =>
        have := indep_at h.2 i j a b (by omega) (by simpa using ha) hb'
        rw [show k + (i + 1) = k + 1 + i by omega]
        exact this

theorem apartS_spec {a b : List Site} (h : apartS a b = true) {s : Site} (h1 : s ∈ a) (h2 : s ∈ b) : False := by
  have := List.all_eq_true.1 h s h1
  simp [h2] at this

structure Clear (a b : Tr) : Prop where
  wr : ∀ x, x ∈ a.W → x ∉ b.R
  ww : ∀ x, x ∈ a.W → x ∉ b.W
  rw : ∀ x, x ∈ b.W → x ∉ a.R
  du : ∀ t, a.mo.dst = some t → t ∉ b.mo.uses
  dd : ∀ t, a.mo.dst = some t → b.mo.dst ≠ some t
  ud : ∀ t, b.mo.dst = some t → t ∉ a.mo.uses
theorem Tr.clear_spec {a b : Tr} (h : a.clear b = true) : Clear a b := by
  simp only [Tr.clear, Bool.and_eq_true] at h
  obtain ⟨⟨⟨⟨h1, h2⟩, h3⟩, h4⟩, h5⟩ := h
  refine ⟨fun x hx hy => apartS_spec h1 hx hy, fun x hx hy => apartS_spec h2 hx hy, fun x hx hy => apartS_spec h3 hx hy, fun t ht => ?_, fun t ht => ?_, fun t ht => ?_⟩
  · rw [ht] at h4; simp at h4; exact h4.1
  · rw [ht] at h4; simp at h4; exact h4.2
  · rw [ht] at h5; simp at h5; exact h5

/-! ### what must come first -/
theorem presOf_get : ∀ (l : List Oper) (acc : List (List Nat)), (∀ i, i < acc.length → (presOf l acc)[i]? = acc[i]?) ∧ (presOf l acc).length = acc.length + l.length ∧
    ∀ j o, l[j]? = some o → ∃ ps, (presOf l acc)[acc.length + j]? = some ps ∧ ∀ i ∈ ps, ∃ e ∈ o.after, Region.binds .any e = true ∧ (i = e.on ∨ ∃ qs, (presOf l acc)[e.on]? = some qs ∧ i ∈ qs)
  | [], acc => ⟨fun i _ => rfl, rfl, fun j o h => by simp at h⟩
  | o :: r, acc => by
    obtain ⟨h1, h2, h3⟩ := presOf_get r (acc ++ [(preOf acc o).eraseDups])
    simp only [presOf]
    refine ⟨fun i hi => ?_, by rw [h2]; simp; omega, fun j o' hj => ?_⟩
    · rw [h1 i (by simp; omega), List.getElem?_append_left hi]
    · cases j with
      | zero =>
        simp at hj; subst hj
        refine ⟨_, by rw [h1 _ (by simp)]; simp; rfl, fun i hi => ?_⟩
        rw [List.mem_eraseDups] at hi
        have aux : ∀ (es : List Edge) (s0 : List Nat), i ∈ es.foldl (fun s e => e.on :: ((acc[e.on]?).getD []) ++ s) s0 → i ∈ s0 ∨ ∃ e ∈ es, i = e.on ∨ i ∈ (acc[e.on]?).getD [] := by
          intro es
          induction es with
          | nil => intro s0 h; exact .inl h
          | cons e es ih =>
            intro s0 h
            rcases ih _ h with h | ⟨e', h4, h5⟩
            · simp only [List.cons_append, List.mem_cons, List.mem_append] at h
              rcases h with h | h | h
              · exact .inr ⟨e, by simp, .inl h⟩
              · exact .inr ⟨e, by simp, .inr h⟩
              · exact .inl h
            · exact .inr ⟨e', by simp [h4], h5⟩
        rcases aux _ _ hi with h | ⟨e, h4, h5⟩
        · simp at h
        · rw [List.mem_filter] at h4
          refine ⟨e, by simpa using h4.1, h4.2, h5.imp id fun h6 => ?_⟩
          cases hq : acc[e.on]? with
          | none => rw [hq] at h6; simp at h6
          | some qs =>
            rw [hq] at h6
            have hlt := (List.getElem?_eq_some_iff.1 hq).1
            exact ⟨qs, by rw [h1 _ (by simp; omega), List.getElem?_append_left hlt, hq], h6⟩
      | succ j =>
        obtain ⟨ps, h4, h5⟩ := h3 j o' (by simpa using hj)
        exact ⟨ps, by rw [← h4]; simp; congr 1; omega, h5⟩

theorem compOps_get {ops : Array Oper} : ∀ (l : List Oper) (ps : List (List Nat)) (j : Nat), (compOps P ops l ps)[j]? = (l[j]?).map fun o => compOper P ops o ((ps[j]?).getD [])
  | [], ps, j => by simp [compOps]
  | o :: r, ps, j => by
    simp only [compOps]
    cases j with
    | zero => cases ps <;> simp
    | succ j => rw [List.getElem?_cons_succ, compOps_get r ps.tail j]; cases ps <;> simp
theorem compOper_pre {ops : Array Oper} {o : Oper} {pre : List Nat} : (compOper P ops o pre).pre = pre := by
  unfold compOper; split <;> rfl

theorem edgesOk_at : ∀ (l : List Oper) (k : Nat), edgesOk k l = true → ∀ j o, l[j]? = some o → ∀ e ∈ o.after, Region.binds .any e = true → e.on < k + j
  | [], k, h, j, o, hj => by simp at hj
  | c :: r, k, h, j, o, hj => by
    simp only [edgesOk, Bool.and_eq_true] at h
    cases j with
    | zero =>
      simp at hj; subst hj
      intro e he hb
      have := Array.all_eq_true_iff_forall_mem.1 h.1 e he
      simp [hb] at this
      omega
    | succ j =>
      intro e he hb
      have := edgesOk_at r (k + 1) h.2 j o (by simpa using hj) e he hb
      omega
end
end Go.Proofs.Ytnphdnokedhhkaa.Fw
namespace Go.Proofs.Ytnphdnokedhhkaa.Fw
open Go Go.RowKit

theorem HRel.ext {B : Nat} {ρ : Map} {old : List Nat → Prop} {w : World} {H G : Heap} (h : HRel B ρ old w H) (e : ∀ x, G.get x = H.get x) : HRel B ρ old w G :=
  ⟨fun s blk hb => h.there s blk (by rw [← e]; exact hb), h.vold, h.inb, h.inj⟩

theorem siteAt_off {X : Nat → Bool} {x : Site} : ∀ (l : List Tr) (i : Nat) (b : Option Blk), (∀ j a, l[j]? = some a → x ∈ a.W → X (i + j) = false) → siteAt X x i l b = b
  | [], _, _, _ => rfl
  | a :: r, i, b, h => by
    simp only [siteAt]
    rw [if_neg (fun hh => by have := h 0 a rfl hh.2; simp only [Nat.add_zero] at this; rw [this] at hh; simp at hh)]
    exact siteAt_off r (i + 1) b fun j c hc hx => by have := h (j + 1) c (by simpa using hc) hx; rw [show i + 1 + j = i + (j + 1) by omega]; exact this
theorem envAt_off {X : Nat → Bool} {t : Nat} : ∀ (l : List Tr) (i : Nat) (b : AV), (∀ j a, l[j]? = some a → a.mo.dst = some t → X (i + j) = false) → envAt X t i l b = b
  | [], _, _, _ => rfl
  | a :: r, i, b, h => by
    simp only [envAt]
    rw [if_neg (fun hh => by have := h 0 a rfl hh.2; simp only [Nat.add_zero] at this; rw [this] at hh; simp at hh)]
    exact envAt_off r (i + 1) b fun j c hc hx => by have := h (j + 1) c (by simpa using hc) hx; rw [show i + 1 + j = i + (j + 1) by omega]; exact this
theorem siteAt_last {X : Nat → Bool} {x : Site} {a : Tr} (hx : x ∈ a.W) : ∀ (l : List Tr) (i k : Nat) (b : Option Blk), l[k]? = some a → X (i + k) = true → (∀ j c, k < j → l[j]? = some c → x ∈ c.W → X (i + j) = false) → siteAt X x i l b = a.H'.get x
  | [], _, k, _, h, _, _ => by simp at h
  | c :: r, i, k, b, h, hX, hlater => by
    simp only [siteAt]
    cases k with
    | zero =>
      simp at h; subst h
      simp only [Nat.add_zero] at hX
      rw [if_pos ⟨hX, hx⟩]
      exact siteAt_off r (i + 1) _ fun j c hc hq => by have := hlater (j + 1) c (by omega) (by simpa using hc) hq; rw [show i + 1 + j = i + (j + 1) by omega]; exact this
    | succ k =>
      exact siteAt_last hx r (i + 1) k _ (by simpa using h) (by rw [show i + 1 + k = i + (k + 1) by omega]; exact hX) fun j c hj hc hq => by
        have := hlater (j + 1) c (by omega) (by simpa using hc) hq; rw [show i + 1 + j = i + (j + 1) by omega]; exact this
theorem envAt_last {X : Nat → Bool} {t : Nat} {a : Tr} (hx : a.mo.dst = some t) : ∀ (l : List Tr) (i k : Nat) (b : AV), l[k]? = some a → X (i + k) = true → (∀ j c, k < j → l[j]? = some c → c.mo.dst = some t → X (i + j) = false) → envAt X t i l b = a.v
  | [], _, k, _, h, _, _ => by simp at h
  | c :: r, i, k, b, h, hX, hlater => by
    simp only [envAt]
    cases k with
    | zero =>
      simp at h; subst h
      simp only [Nat.add_zero] at hX
      rw [if_pos ⟨hX, hx⟩]
      exact envAt_off r (i + 1) _ fun j c hc hq => by have := hlater (j + 1) c (by omega) (by simpa using hc) hq; rw [show i + 1 + j = i + (j + 1) by omega]; exact this
    | succ k =>
      exact envAt_last hx r (i + 1) k _ (by simpa using h) (by rw [show i + 1 + k = i + (k + 1) by omega]; exact hX) fun j c hj hc hq => by
        have := hlater (j + 1) c (by omega) (by simpa using hc) hq; rw [show i + 1 + j = i + (j + 1) by omega]; exact this

def left (X : Nat → Bool) : Nat → Nat
  | 0 => 0
  | m + 1 => left X m + if X m then 0 else 1
theorem left_zero {X : Nat → Bool} : ∀ {m : Nat}, left X m = 0 → ∀ i, i < m → X i = true
  | 0, _, i, hi => by omega
  | m + 1, h, i, hi => by
    simp only [left] at h
    by_cases he : i = m
    · subst he
      cases hx : X i with
      | true => rfl
      | false => simp [hx] at h
    · exact left_zero (X := X) (m := m) (by omega) i (by omega)
theorem left_mono {X Y : Nat → Bool} (h : ∀ i, X i = true → Y i = true) : ∀ m, left Y m ≤ left X m
  | 0 => Nat.le_refl _
  | m + 1 => by
    simp only [left]
    have := left_mono h m
    cases hx : X m with
    | true => rw [h m hx]; simp; exact this
    | false => simp; split <;> omega
theorem left_lt {X Y : Nat → Bool} (h : ∀ i, X i = true → Y i = true) : ∀ {m i : Nat}, i < m → X i = false → Y i = true → left Y m < left X m
  | 0, i, hi, _, _ => by omega
  | m + 1, i, hi, hx, hy => by
    simp only [left]
    by_cases he : i = m
    · subst he
      have := left_mono h i
      simp [hx, hy]; omega
    · have := left_lt h (m := m) (i := i) (by omega) hx hy
      cases hq : X m with
      | true => rw [h m hq]; simp; exact this
      | false => simp; split <;> omega

def done (listed : Array Bool) (i : Nat) : Bool := listed.getD i false
theorem done_set {listed : Array Bool} {i : Nat} (hi : i < listed.size) (j : Nat) : done (listed.setIfInBounds i true) j = (done listed j || decide (j = i)) := by
  unfold done
  by_cases h : i = j
  · subst h; simp [hi]
  · rw [getD_set_ne false h]; simp [Ne.symm h]

section
variable {P : Program} {PP : Prog} {C : Caller} {n B d : Nat} {π : List Nat} {ops : Array Oper} {s s' : St} {tr : List Tr} {Q : Exit → Act → World → Prop}

def Mid (d n B : Nat) (π : List Nat) (s : St) (tr : List Tr) (ρA : Map) (oldA : List Nat → Prop) (wA : World) (X : Nat → Bool) (a : Act) (w : World) : Prop :=
  ∃ ρ old e H, Good d n B ρ old w e H a ∧ After d B s.H ρA oldA wA (fun q => ∃ i τ, X i = true ∧ i < tr.length ∧ q = τ ++ (s.k + i) :: π) H ρ old w ∧
    (∀ t, e.get t = envAt X t 0 tr (s.env.get t)) ∧ (∀ x, H.get x = siteAt X x 0 tr (s.H.get x))

/-- of the operations that conflict with the one at hand, those ahead in the text have been carried out, and no other -/
theorem agree {X : Nat → Bool} {i : Nat} {a : Tr} (hi : tr[i]? = some a) (hXi : X i = false) (hready : ∀ k ∈ a.mo.pre, X k = true) (hD : ∀ j b, X j = true → tr[j]? = some b → ∀ k ∈ b.mo.pre, X k = true)
    (hind : ∀ (i j : Nat) (a b : Tr), i < j → tr[i]? = some a → tr[j]? = some b → i ∈ b.mo.pre ∨ a.clear b = true) {cf : Tr → Prop} (h1 : ∀ c, cf c → ¬ Clear c a) (h2 : ∀ c, cf c → ¬ Clear a c) :
    ∀ j c, tr[j]? = some c → cf c → j ≠ i → X j = decide (j < i) := by
  intro j c hj hc hne
  by_cases hlt : j < i
  · rcases hind j i c a hlt hj hi with h | h
    · rw [hready j h]; simp [hlt]
    · exact absurd (Tr.clear_spec h) (h1 c hc)
  · have hgt : i < j := by omega
    rcases hind i j a c hgt hi hj with h | h
    · have : X j = false := by
        cases hx : X j with
        | false => rfl
        | true => rw [hD j c hx hj i h] at hXi; cases hXi
      rw [this]; simp [hlt]
    · exact absurd (Tr.clear_spec h) (h2 c hc)

theorem draw_any (hC : CallerOk P C) (hS : SpecOk P PP) (hedge : edgesOk 0 ops.toList = true) (hd : dstsOk n (compOps P ops ops.toList (presOf ops.toList [])) = true)
    (htr : evTrace PP C d π (compOps P ops ops.toList (presOf ops.toList [])) s = some (tr, s')) (hin : indep 0 tr = true) {ρA : Map} {oldA : List Nat → Prop} {wA : World}
    (hst : ∀ q, oldA q → ∀ τ m, s.k ≤ m → q ≠ τ ++ m :: π) (hQ : Leaves d n B s.H Q ρA oldA wA (fun q => ∃ τ m, q = τ ++ m :: π ∧ s.k ≤ m ∧ m < s'.k) .nrm s') :
    ∀ (fuel : Nat) (listed : Array Bool) (a : Act) (w : World), listed.size = ops.size → left (done listed) ops.size ≤ fuel → (∀ j b, done listed j = true → tr[j]? = some b → ∀ k ∈ b.mo.pre, done listed k = true) →
      Mid d n B π s tr ρA oldA wA (done listed) a w → wpAny P .any ops Q fuel listed a w := by
  obtain ⟨hlen, hk, hat, hB, hE⟩ := evTrace_facts _ _ _ _ htr
  have hlen' : tr.length = ops.size := by
    rw [hlen]
    have : ∀ (l : List Oper) (ps : List (List Nat)), (compOps P ops l ps).length = l.length := by
      intro l
      induction l with
      | nil => intro ps; rfl
      | cons o r ih => intro ps; simp [compOps, ih]
    rw [this]; simp
  have hk' : s'.k = s.k + ops.size := by rw [hk, ← hlen, hlen']
  have hind : ∀ (i j : Nat) (a b : Tr), i < j → tr[i]? = some a → tr[j]? = some b → i ∈ b.mo.pre ∨ a.clear b = true := fun i j a b hij ha hb => by
    have := indep_at hin i j a b hij ha hb
    simpa using this
  have entry : ∀ i o, ops[i]? = some o → ∃ a, tr[i]? = some a ∧ a.mo = compOper P ops o (((presOf ops.toList [])[i]?).getD []) ∧ TrOk PP C d ((s.k + i) :: π) a := by
    intro i o ho
    have hi : i < tr.length := by rw [hlen']; exact (Array.getElem?_eq_some_iff.1 ho).1
    obtain ⟨q1, q2⟩ := hat i tr[i] (by simp [hi])
    refine ⟨tr[i], by simp [hi], ?_, q2⟩
    rw [compOps_get] at q1
    have ho' : ops.toList[i]? = some o := by simpa using ho
    rw [ho'] at q1
    simp only [Option.map_some, Option.some.injEq] at q1
    exact q1.symm
  have finish : ∀ (listed : Array Bool) (a : Act) (w : World), (∀ i, i < ops.size → done listed i = true) → Mid d n B π s tr ρA oldA wA (done listed) a w → Q .normal a w := by
    rintro listed a w hall ⟨ρ, old, e, H, g, ha, he, hH⟩
    have hx : ∀ x, s'.H.get x = H.get x := fun x => by
      have h1 := hB 0 tr.length x
      have h2 : hBefore tr s' tr.length = s'.H := by simp [hBefore]
      rw [h2] at h1
      rw [← h1, siteAt_congr (Y := done listed) tr 0 _ fun j c hj _ => ?_, ← hH x]
      · have hlt := (List.getElem?_eq_some_iff.1 hj).1
        rw [show 0 + j = j by omega, hall j (by omega)]; simp; exact hlt
    refine hQ ρ old a w ⟨ha.keep, ha.below, fun q hq => (ha.news q hq).imp id fun ⟨i, τ, _, hi, hq⟩ => ⟨τ, s.k + i, hq, by omega, by rw [hk']; omega⟩, ha.av, fun x hx1 hn => ⟨(hx x).trans (ha.fr x hx1 hn).1, (ha.fr x hx1 hn).2⟩⟩ ⟨fun t => ?_, g.heap.ext hx, g.base, g.size, g.defers, g.low.ext hx⟩
    · have h1 := hE 0 tr.length t
      have h2 : eBefore tr s' tr.length = s'.env := by simp [eBefore]
      rw [h2] at h1
      rw [← h1, envAt_congr (Y := done listed) tr 0 _ fun j c hj _ => ?_, ← he t]
      · exact g.env t
      · have hlt := (List.getElem?_eq_some_iff.1 hj).1
        rw [show 0 + j = j by omega, hall j (by omega)]; simp; exact hlt
  intro fuel
  induction fuel with
  | zero =>
    intro listed a w hsz hl hD hmid
    have hall := left_zero (Nat.le_zero.1 hl)
    refine ⟨?_, finish listed a w hall hmid⟩
    rw [List.eq_nil_iff_forall_not_mem]
    intro i hi
    obtain ⟨h1, o, ho, _⟩ := mem_ready.1 hi
    have hlt := (Array.getElem?_eq_some_iff.1 ho).1
    have := hall i hlt
    unfold done at this
    simp [hsz, hlt] at h1 this
    rw [h1] at this; cases this
  | succ fuel ih =>
    intro listed a w hsz hl hD hmid
    refine ⟨fun hr => finish listed a w (fun i => ?_) hmid, fun i hi => ?_⟩
    · induction i using Nat.strongRecOn with
      | _ i ihi =>
        intro hlt
        cases hx : done listed i with
        | true => rfl
        | false =>
          exfalso
          have ho : ops[i]? = some ops[i] := by simp [hlt]
          have : i ∈ Region.ready .any ops listed := by
            refine mem_ready.2 ⟨?_, ops[i], ho, fun e he hb => ?_⟩
            · unfold done at hx; simp [hsz, hlt] at hx ⊢; exact hx
            · have h1 := edgesOk_at _ _ hedge i ops[i] (by simp [hlt]) e he hb
              exact ihi e.on (by omega) (by omega)
          rw [hr] at this; cases this
    · obtain ⟨hun, o, ho, hall⟩ := mem_ready.1 hi
      have hlt := (Array.getElem?_eq_some_iff.1 ho).1
      have hltL : i < listed.size := by omega
      have hXi : done listed i = false := by unfold done; simp [hsz, hlt] at hun ⊢; exact hun
      obtain ⟨A, hA, hmo, hok⟩ := entry i o ho
      have hready : ∀ k ∈ A.mo.pre, done listed k = true := by
        intro k hk
        rw [hmo, compOper_pre] at hk
        obtain ⟨_, _, h3⟩ := presOf_get ops.toList []
        obtain ⟨ps, h4, h5⟩ := h3 i o (by simpa using ho)
        simp only [List.length_nil, Nat.zero_add] at h4
        rw [h4] at hk
        obtain ⟨e, he, hb, hor⟩ := h5 k (by simpa using hk)
        have hon : done listed e.on = true := hall e (by simpa using he) hb
        rcases hor with rfl | ⟨qs, h6, h7⟩
        · exact hon
        · have hlo : e.on < ops.size := by
            unfold done at hon
            rcases Nat.lt_or_ge e.on listed.size with h | h
            · omega
            · simp [Array.getElem?_eq_none h] at hon
          obtain ⟨D, hD1, hD2, _⟩ := entry e.on ops[e.on] (by simp [hlo])
          refine hD e.on D hon hD1 k ?_
          rw [hD2, compOper_pre, h6]
          exact h7
      have X' := done_set hltL
      have hD' : ∀ j b, done (listed.setIfInBounds i true) j = true → tr[j]? = some b → ∀ k ∈ b.mo.pre, done (listed.setIfInBounds i true) k = true := by
        intro j b hj hb k hk
        rw [X', Bool.or_eq_true] at hj ⊢
        rcases hj with hj | hj
        · exact .inl (hD j b hj hb k hk)
        · simp at hj; subst hj
          rw [hA] at hb; cases hb
          exact .inl (hready k hk)
      have hl' : left (done (listed.setIfInBounds i true)) ops.size ≤ fuel := by
        have := left_lt (X := done listed) (Y := done (listed.setIfInBounds i true)) (fun j hj => by rw [X', hj]; rfl) hlt hXi (by rw [X']; simp)
        omega
      have ag := @agree tr (done listed) i A hA hXi hready hD hind
      obtain ⟨ρ, old, e, H, g, ha, he, hH⟩ := hmid
      have huse : ∀ t ∈ A.mo.uses, e.get t = A.e.get t := by
        intro t ht
        rw [he t, envAt_congr (Y := fun j => decide (j < 0 + i)) tr 0 _ fun j c hj hc => ?_, hE 0 i t]
        · simp [eBefore, hA]
        · have := ag (cf := fun c => c.mo.dst = some t) (fun c hc k => k.du t hc ht) (fun c hc k => k.ud t hc ht) j c hj hc
          by_cases hji : j = i
          · subst hji; simp [hXi]
          · rw [show 0 + j = j by omega, this hji]; simp
      have hreads : ∀ x ∈ A.R, H.get x = A.H.get x := by
        intro x hx
        rw [hH x, siteAt_congr (Y := fun j => decide (j < 0 + i)) tr 0 _ fun j c hj hc => ?_, hB 0 i x]
        · simp [hBefore, hA]
        · have := ag (cf := fun c => x ∈ c.W) (fun c hc k => k.wr x hc hx) (fun c hc k => k.rw x hc hx) j c hj hc
          by_cases hji : j = i
          · subst hji; simp [hXi]
          · rw [show 0 + j = j by omega, this hji]; simp
      have henv : ∀ t, (putD e o.dst A.v).get t = envAt (done (listed.setIfInBounds i true)) t 0 tr (s.env.get t) := by
        have hdst : A.mo.dst = o.dst := by rw [hmo, compOper_dst]
        intro t
        rw [get_putD]
        by_cases ht : o.dst = some t
        · rw [if_pos ht]
          refine (envAt_last (hdst.trans ht) tr 0 i _ hA (by rw [X']; simp) fun j c hj hc hq => ?_).symm
          have := ag (cf := fun c => c.mo.dst = some t) (fun c hc k => k.dd t hc (hdst.trans ht)) (fun c hc k => k.dd t (hdst.trans ht) hc) j c hc hq (by omega)
          rw [show 0 + j = j by omega, X', this]; simp; omega
        · rw [if_neg ht, he t]
          refine envAt_congr tr 0 _ fun j c hj hc => ?_
          rw [show 0 + j = j by omega, X']
          have : j ≠ i := by rintro rfl; rw [hA] at hj; cases hj; exact ht (hdst ▸ hc)
          simp [this]
      have hheap : ∀ H2, Lays A.W H A.H' H2 → ∀ x, H2.get x = siteAt (done (listed.setIfInBounds i true)) x 0 tr (s.H.get x) := by
        intro H2 hL x
        rw [hL x]
        by_cases hx : x ∈ A.W
        · rw [if_pos hx]
          refine (siteAt_last hx tr 0 i _ hA (by rw [X']; simp) fun j c hj hc hq => ?_).symm
          have := ag (cf := fun c => x ∈ c.W) (fun c hc k => k.ww x hc hx) (fun c hc k => k.ww x hx hc) j c hc hq (by omega)
          rw [show 0 + j = j by omega, X', this]; simp; omega
        · rw [if_neg hx, hH x]
          refine siteAt_congr tr 0 _ fun j c hj hc => ?_
          rw [show 0 + j = j by omega, X']
          have : j ≠ i := by rintro rfl; rw [hA] at hj; cases hj; exact hx hc
          simp [this]
      have hmono : ∀ q, (∃ i τ, done listed i = true ∧ i < tr.length ∧ q = τ ++ (s.k + i) :: π) → ∃ j τ, done (listed.setIfInBounds i true) j = true ∧ j < tr.length ∧ q = τ ++ (s.k + j) :: π :=
        fun q ⟨j, τ, h1, h2, h3⟩ => ⟨j, τ, by rw [X', h1]; rfl, h2, h3⟩
      have hd1 : ∀ t, o.dst = some t → t < n := by
        have dst_at : ∀ (l : List MO), dstsOk n l = true → ∀ m ∈ l, ∀ t, m.dst = some t → t < n := by
          intro l
          induction l with
          | nil => intro _ m hm; simp at hm
          | cons c r ih =>
            intro h m hm t ht
            simp only [dstsOk, Bool.and_eq_true] at h
            rcases List.mem_cons.1 hm with rfl | hm
            · have := h.1; rw [ht] at this; simpa using this
            · exact ih h.2 m hm t ht
        intro t ht
        refine dst_at _ hd A.mo (List.mem_of_getElem? (hat i A hA).1) t ?_
        rw [hmo, compOper_dst]; exact ht
      unfold wpOp
      simp only [ho]
      -- the guard
      cases e1 : compOp P o.op with
      | none =>
        exfalso
        have hb : A.mo = ⟨o.dst, .bad, none, (((presOf ops.toList [])[i]?).getD [])⟩ := by rw [hmo]; simp [compOper, e1]
        have h1 := hok.guard
        have h2 := hok.step
        rw [hb] at h1 h2
        simp only [guardOf, Option.some.injEq] at h1
        have := h2 h1.symm
        simp only [stepOp, opSem] at this
        cases this
      | some m =>
      cases e2 : compGuard ops o.guard with
      | none =>
        exfalso
        have hb : A.mo = ⟨o.dst, .bad, none, (((presOf ops.toList [])[i]?).getD [])⟩ := by rw [hmo]; simp [compOper, e1, e2]
        have h1 := hok.guard
        have h2 := hok.step
        rw [hb] at h1 h2
        simp only [guardOf, Option.some.injEq] at h1
        have := h2 h1.symm
        simp only [stepOp, opSem] at this
        cases this
      | some gd =>
        have hb : A.mo = ⟨o.dst, m, gd, (((presOf ops.toList [])[i]?).getD [])⟩ := by rw [hmo]; simp [compOper, e1, e2]
        have hguard : guardOf e gd = some A.on := by
          have h1 := hok.guard
          rw [hb] at h1
          simp only at h1
          rw [← h1]
          cases gd with
          | none => rfl
          | some tw =>
            obtain ⟨t, want⟩ := tw
            simp only [guardOf]
            rw [huse t (by rw [hb]; simp [MO.uses])]
        have hw := wanted_of g.env e2 hguard
        rw [hw]
        cases hon : A.on with
        | false =>
          simp only [Bool.false_eq_true, if_false]
          obtain ⟨q1, q2, q3⟩ := hok.off hon
          refine ih _ _ _ (by simp [hsz]) hl' hD' ⟨ρ, old, putD e o.dst (.v undef), H, skip_good g hd1, ⟨ha.keep, ha.below, fun q hq => (ha.news q hq).imp id (hmono q), ha.av, ha.fr⟩, ?_, ?_⟩
          · rw [← q1]; exact henv
          · exact hheap H (by rw [q2]; exact Lays.nothing)
        | true =>
          rw [if_pos rfl]
          obtain ⟨H2, h1, h2⟩ := stepOp_lays (H2 := H) (e2 := e) (hok.step hon) (hok.foot hon) (fun t ht => huse t (by simp [MO.uses, ht])) hreads
          rw [← hok.writes hon] at h2
          refine .inl (step_wp hC hS (mo := A.mo) (by rw [hb]; exact e1) (by rw [hb]) h1 g (fun q hq τ hqe => ?_) hd1 ?_)
          · rcases ha.news q hq with h3 | ⟨j, τ', h3, _, h4⟩
            · exact hst q h3 τ (s.k + i) (by omega) hqe
            · rw [hqe] at h4
              have := stamp_same h4
              have : i = j := by omega
              subst this
              rw [hXi] at h3; cases h3
          · intro ρ1 old1 u w1 ha1 g1 _
            refine ih _ _ _ (by simp [hsz]) hl' hD' ⟨ρ1, old1, putD e o.dst A.v, H2, g1, ha.trans ha1 hmono (fun q ⟨τ, hq⟩ => ⟨i, τ, by rw [X']; simp, by omega, hq⟩), henv, hheap H2 h2⟩

theorem draw_ok (hm : P.follows .mixedOrders = true) (hC : CallerOk P C) (hS : SpecOk P PP) : DrawOk P PP C := by
  intro n B id d ops hedge hd π s x s' h
  rw [Option.map_eq_some_iff] at h
  obtain ⟨s1, h1, h2⟩ := h
  cases h2
  unfold evDraw at h1
  split at h1
  · rename_i tr s2 htr
    split at h1
    · rename_i hin
      cases h1
      obtain ⟨hlen, hk, hat, hB, hE⟩ := evTrace_facts _ _ _ _ htr
      refine ⟨by omega, fun ρ old w a g hst Q hQ => wp_region_any hm ?_⟩
      obtain ⟨kp, hH⟩ := g.heap.same (w' := { w with drawn := w.drawn + 1 }) (old' := old) (fun b _ => rfl) (fun _ h => h)
      have haf : After d B s.H ρ old w (fun q => ∃ i τ, done (Array.replicate ops.size false) i = true ∧ i < tr.length ∧ q = τ ++ (s.k + i) :: π) s.H ρ old { w with drawn := w.drawn + 1 } :=
        ⟨kp, ⟨rfl, rfl, rfl, Nat.le_refl _, fun _ _ => rfl⟩, fun q h => .inl h, rfl, fun _ _ h => ⟨h, rfl, fun _ _ _ _ => rfl⟩⟩
      have hnone : ∀ i, done (Array.replicate ops.size false) i = false := by
        intro i
        unfold done
        by_cases hi : i < ops.size
        · simp [hi]
        · simp [hi]
      refine draw_any hC hS hedge hd htr hin (ρA := ρ) (oldA := old) (wA := w) hst hQ ops.size _ a _ (by simp) ?_ ?_ ?_
      · have : ∀ (X : Nat → Bool) m, left X m ≤ m := by
          intro X m
          induction m with
          | zero => exact Nat.le_refl _
          | succ m ih => simp only [left]; split <;> omega
        exact this _ _
      · intro j b hj; rw [hnone] at hj; cases hj
      · refine ⟨ρ, old, s.env, s.H, ⟨fun t => RelV.mono kp _ _ (g.env t), hH, g.base, g.size, g.defers, g.low⟩, haf, fun t => ?_, fun x => ?_⟩
        · rw [envAt_off tr 0 _ fun j c _ _ => hnone _]
        · rw [siteAt_off tr 0 _ fun j c _ _ => hnone _]
    · cases h1
  · cases h1
end
end Go.Proofs.Ytnphdnokedhhkaa.Fw
