/- pulse.Named: the map of makers by hand, the rest by the evaluator. -/
import Derived.Test.YtaklelfdcbgebaaFwY
import Derived.Test.YtaklelfdcbgebaaFwAbs
import Derived.Test.YtaklelfdcbgebaaLwAd
import Derived.WalkKit
import Derived.WalkSpells
import Derived.WalkLawsBesides
import Derived.Maps.Own
import Derived.WideMake
import Derived.KernelRfl
set_option maxRecDepth 100000
set_option maxHeartbeats 4000000
set_option linter.unusedSimpArgs false
set_option linter.unusedVariables false
namespace Go.Proofs.Ytaklelfdcbgebaa.Fw
open Go Go.RowKit Go.Proofs Go.ChangeMaps Go.MapKept
/-! ### a map with string keys, as it is made and asked -/
theorem run_put {P : Program} {w : World} {mty kt et : TypeId} {r clock : Nat} {s : ByteArray} {val : Value} {es : Array MapEntry} (hm : P.underlying mty = some (.map kt et)) (hk : P.underlying kt = some .string) (hb : w.heap[r]? = some (.map es clock)) (hf : Instr.findNow .string (.string s) es.toList 0 = some none) :
    (Instr.mapUpdate mty (.map (some r)) (.string s) val).run P w = .ok () { w with heap := w.heap.setIfInBounds r (.map (es.push { key := .string s, val := val, born := clock }) (clock + 1)) } := by
  have hc : (Instr.checkKey false 10000 kt (.string s)).run P w = .ok () w := MapKept.run_checkKey (k := .string s) hk (by simp [MapKept.IsKey]) false 9999
  simp [Instr.mapUpdate, run_underlying hm, MapKept.run_getObj_map hb, hc, MapKept.run_findKey hk hf, MapKept.run_setObj_map _ hb, Result.andThen]
theorem wpList_put {P : Program} (w : World) {ops : Array Oper} {rest : List Oper} {o : Oper} {a : Act} {Q : Exit → Act → World → Prop}
    (hg : o.guard = none) (m x v : Operand) (t : TypeId) (hop : o.op = Op.insert t m x v) (kt et : TypeId) (ht : P.underlying t = some (.map kt et)) (hk : P.underlying kt = some .string)
    (b clock : Nat) (es : Array MapEntry) (s : ByteArray) (val : Value) (hm : a.eval m = .map (some b)) (hx : a.eval x = .string s) (hv : a.eval v = val) (hb : w.heap[b]? = some (.map es clock)) (hf : Instr.findNow .string (.string s) es.toList 0 = some none)
    (hK : ∀ w', w'.heap[b]? = some (.map (es.push { key := .string s, val := val, born := clock }) (clock + 1)) → w.grownBy w' (some b) → wpList P ops Q rest (a.put o.dst undef) w') :
    wpList P ops Q (o :: rest) a w := by
  refine wpList_plain hg fun K' hK' => ?_
  unfold Oper.wp
  simp [execOp, hop, hm, hx, hv, run_put ht hk hb hf, Result.andThen]
  refine hK' _ _ (hK _ ?_ ?_)
  · exact heap_setBlock_same hb _
  · exact ⟨rfl, rfl, rfl, by simp, fun i _ hi => heap_setBlock_other hb _ (fun e => hi (by rw [e]))⟩
def nSpike : ByteArray := ⟨#[115, 112, 105, 107, 101]⟩
def nBox : ByteArray := ⟨#[98, 111, 120]⟩
def nTent : ByteArray := ⟨#[116, 101, 110, 116]⟩
def nSoft : ByteArray := ⟨#[115, 111, 102, 116]⟩
def namesEs : Array MapEntry := #[{ key := .string nSpike, val := .func (.func 45) #[] #[], born := 0 }, { key := .string nBox, val := .func (.func 46) #[] #[], born := 1 }, { key := .string nTent, val := .func (.func 48) #[] #[], born := 2 }, { key := .string nSoft, val := .func (.func 49) #[] #[], born := 3 }]
theorem makers_any (w : World) : Calls Try.prog 38 #[] w fun e w' => e = .returned (.map (some w.heap.size)) ∧ Below w.heap.size w w' ∧ w'.heap[w.heap.size]? = some (.map namesEs 4) := by
  have hmm := @run_makeMap Try.prog
  go_enter Try.func38, Try.ntmps38
  have h0 : (w.alloc (.map #[] 0)).heap[w.heap.size]? = some (.map #[] 0) := (MapKept.heap_alloc w _).1
  go_wp2_with (first
    | (refine wpList_put _ rfl _ _ _ 69 rfl 9 67 Try.underlying69 Try.underlying9 w.heap.size _ _ _ _ rfl rfl rfl (by assumption) (by rfl) ?_; intro w1 h1 g1)
    | go_in)
  rename_i wa ha ga wb hb gb wc hc gc
  go_ret
  have B0 : Below w.heap.size w (w.alloc (.map #[] 0)) := (Below.refl _ _).alloc (Nat.le_refl _) _
  have B1 := B0.grown ga B0.size (fun j hj => by cases hj; exact Nat.le_refl _)
  have B2 := B1.grown gb B1.size (fun j hj => by cases hj; exact Nat.le_refl _)
  have B3 := B2.grown gc B2.size (fun j hj => by cases hj; exact Nat.le_refl _)
  have B4 := B3.grown g1 B3.size (fun j hj => by cases hj; exact Nat.le_refl _)
  exact ⟨rfl, B4, h1⟩
def posN (s : ByteArray) : Option (Nat × Value) :=
  match s == nSpike with
  | true => some (0, .func (.func 45) #[] #[])
  | false => match s == nBox with
    | true => some (1, .func (.func 46) #[] #[])
    | false => match s == nTent with
      | true => some (2, .func (.func 48) #[] #[])
      | false => match s == nSoft with
        | true => some (3, .func (.func 49) #[] #[])
        | false => none
/-- the same, as the evaluator sees it -/
def fnN (s : ByteArray) : AV :=
  match s == nSpike with
  | true => .fn (.func 45) [] []
  | false => match s == nBox with
    | true => .fn (.func 46) [] []
    | false => match s == nTent with
      | true => .fn (.func 48) [] []
      | false => match s == nSoft with
        | true => .fn (.func 49) [] []
        | false => .junk
theorem find_names (s : ByteArray) : Instr.findNow .string (.string s) namesEs.toList 0 = some (posN s) := by
  show Instr.findNow .string (.string s) [_, _, _, _] 0 = _
  simp only [Instr.findNow, Instr.sameNow]
  unfold posN
  cases s == nSpike <;> cases s == nBox <;> cases s == nTent <;> cases s == nSoft <;> rfl
theorem fn_rel {ρ : Map} {old : List Nat → Prop} {w : World} {s : ByteArray} {u : Value} (h : ∀ p, posN s = some p → u = p.2) : RelV ρ old w (fnN s) u := by
  revert h
  unfold posN fnN
  cases s == nSpike <;> cases s == nBox <;> cases s == nTent <;> cases s == nSoft <;> intro h <;> first | (rw [h _ rfl]; simp only [RelV]; exact ⟨#[], #[], rfl, by simp only [Array.toList, RelL], by simp only [Array.toList, RelL]⟩) | (simp only [RelV])
theorem zero67 (w : World) : (zeroValue 67).run Try.prog w = .ok .nilFunc w := by kernel_rfl
theorem look_run {w : World} {b : Nat} (hb : w.heap[b]? = some (.map namesEs 4)) (s : ByteArray) :
    ∃ u, (Instr.lookup 69 (.map (some b)) (.string s) true).run Try.prog w = .ok (.tuple #[u, .bool (posN s).isSome]) w ∧ ∀ p, posN s = some p → u = p.2 := by
  have hc : ∀ em, (Instr.checkKey em 10000 9 (.string s)).run Try.prog w = .ok () w := fun em => MapKept.run_checkKey (k := .string s) Try.underlying9 (by simp [MapKept.IsKey]) em 9999
  have hz := zero67 w
  cases hp : posN s with
  | none =>
    refine ⟨.nilFunc, ?_, fun p h => by cases h⟩
    have hf := find_names s
    rw [hp] at hf
    simp [Instr.lookup, run_underlying Try.underlying69, MapKept.run_getObj_map hb, hc, MapKept.run_findKey Try.underlying9 hf, hz, Result.andThen]
  | some p =>
    refine ⟨p.2, ?_, fun q h => by cases h; rfl⟩
    have hf := find_names s
    rw [hp] at hf
    simp [Instr.lookup, run_underlying Try.underlying69, MapKept.run_getObj_map hb, hc, MapKept.run_findKey Try.underlying9 hf, hz, Result.andThen]
/-! ### the small code of Named, but for the look-up -/
def sL : Code → Code
  | .seq a _ => a
  | c => c
def sR : Code → Code
  | .seq _ b => b
  | c => c
noncomputable def cN : Code := match Try.f21.body with
  | some c => c
  | none => .skip
noncomputable def opsN : Array Oper := match sL (sR cN) with
  | .region _ ops _ => ops
  | _ => #[]
theorem cN_is : cN = .seq (sL cN) (.seq (.region 1 opsN false) (sR (sR cN))) := by kernel_rfl
theorem cN_body : Try.f21.body = some cN := by kernel_rfl
def seqRun (A B : List Nat → St → Option (Ex × St)) (π : List Nat) (s : St) : Option (Ex × St) :=
  match A π s with
  | some (.nrm, s1) => B π s1
  | r => r
theorem walks_seq {P : Program} {d n B : Nat} {A Bf : List Nat → St → Option (Ex × St)} {ca cb : Code} (ha : Walks P d n B A ca) (hb : Walks P d n B Bf cb) : Walks P d n B (seqRun A Bf) (.seq ca cb) := by
  intro π s x s' h
  unfold seqRun at h
  cases hq : A π s with
  | none => rw [hq] at h; cases h
  | some y =>
    obtain ⟨y, s1⟩ := y
    obtain ⟨hk, hwa⟩ := ha π s y s1 hq
    rw [hq] at h
    cases y with
    | nrm =>
      simp only at h
      obtain ⟨hk2, hwb⟩ := hb π s1 x s' h
      refine ⟨by omega, fun ρ old w a g hst Q hQ => wp_seq (hwa ρ old w a g hst _ ?_)⟩
      intro ρ1 old1 a1 w1 ha1 g1
      show cb.wp P Q a1 w1
      refine hwb ρ1 old1 w1 a1 g1 ?_ Q ?_
      · intro q hq τ m hm e
        rcases ha1.news q hq with h1 | ⟨τ1, m1, h1, _, h3⟩
        · exact hst q h1 τ m (by omega) e
        · rw [e] at h1
          have := stamp_same h1
          omega
      · intro ρ2 old2 a2 w2 ha2 g2
        exact hQ _ _ _ _ (ha1.trans ha2 (fun q ⟨τ, m, e, m1, m2⟩ => ⟨τ, m, e, m1, by omega⟩) fun q ⟨τ, m, e, m1, m2⟩ => ⟨τ, m, e, by omega, m2⟩) g2
    | exit i =>
      simp only at h
      cases h
      exact ⟨hk, fun ρ old w a g hst Q hQ => wp_seq (hwa ρ old w a g hst _ fun ρ1 old1 a1 w1 ha1 g1 => hQ _ _ _ _ ha1 g1)⟩
    | ret =>
      simp only at h
      cases h
      exact ⟨hk, fun ρ old w a g hst Q hQ => wp_seq (hwa ρ old w a g hst _ fun ρ1 old1 a1 w1 ha1 g1 => hQ _ _ _ _ ha1 g1)⟩
noncomputable def ops1 : List MO := compOps Try.prog opsN (opsN.toList.drop 3) []
/-- the look-up's region -/
noncomputable def ev1 (PP : Prog) (C : Caller) (π : List Nat) (s : St) : Option (Ex × St) :=
  match s.env.get 0 with
  | .v (.string name) => (evOps PP C 0 π ops1 ⟨(13, .tup [fnN name, .v (.bool (posN name).isSome)]) :: (12, .junk) :: (11, .junk) :: s.env, s.H, s.k⟩).map fun s => (.nrm, s)
  | _ => none
theorem ops_three : ∃ o0 o1 o2, opsN.toList = o0 :: o1 :: o2 :: opsN.toList.drop 3 ∧ (o0.guard = none ∧ o0.dst = some 11 ∧ ∃ c, o0.op = .call c ∧ c.callee = .value (.func 38) ∧ c.args = #[]) ∧ (o1.guard = none ∧ o1.dst = some 12 ∧ o1.op = .move (.tmp 0)) ∧ (o2.guard = none ∧ o2.dst = some 13 ∧ o2.op = .lookup 69 (.tmp 11) (.tmp 12) true) :=
  ⟨_, _, _, rfl, ⟨rfl, rfl, _, rfl, rfl, rfl⟩, ⟨rfl, rfl, rfl⟩, ⟨rfl, rfl, rfl⟩⟩
theorem ev1_walks {PP : Prog} {C : Caller} {n B : Nat} (hC : CallerOk Try.prog C) (hS : SpecOk Try.prog PP) (hn : 14 ≤ n) (hd : dstsOk n ops1 = true) : Walks Try.prog 0 n B (ev1 PP C) (.region 1 opsN false) := by
  intro π s x s' h
  unfold ev1 at h
  split at h
  · rename_i name hname
    rw [Option.map_eq_some_iff] at h
    obtain ⟨s1, h1, h2⟩ := h
    cases h2
    have hk0 := evOps_k _ _ _ h1
    refine ⟨hk0, fun ρ old w a g hst Q hQ => wp_region_list ?_⟩
    obtain ⟨o0, o1, o2, e, ⟨g0, d0, c, p0, p1, p2⟩, ⟨g1, d1, q1⟩, ⟨g2, d2, q2⟩⟩ := ops_three
    rw [e]
    have hfn : FnIs Try.prog 38 := ⟨_, Try.func38, ne_of_beq_false (by kernel_rfl), by kernel_rfl⟩
    refine wpList_plain g0 fun K0 hK0 => ?_
    unfold Oper.wp
    rw [run_call p0 p1 (ρe := a.eval) (a := #[]) (b := #[]) rfl hfn]
    have hm := makers_any w
    have hargs : (#[] : Array Value) ++ c.args.map a.eval ++ #[] = #[] := by rw [p2]; simp
    rw [hargs]
    refine Calls.mono hm ?_
    rintro e' w1 ⟨rfl, hb, hmap⟩
    refine hK0 _ _ ?_
    have kp : Keep ρ ρ old old w w1 := ⟨fun b hb' hn => ⟨hb.block b hb', hn⟩, fun _ _ _ _ e _ => e, fun _ h => h, fun s b z st e _ => by unfold World.shape?; rw [hb.block b (g.heap.inb _ _ _ _ e).2], fun _ _ _ => Iff.rfl⟩
    have hBel : Below B w w1 := ⟨hb.os, hb.tape, hb.output, hb.size, fun k hk => hb.block k (Nat.lt_of_lt_of_le hk g.base)⟩
    have hH : HRel B ρ old w1 s.H := HRel.move g.heap kp (fun s blk hg => ⟨hg, rfl⟩) (fun _ _ h => h) (fun _ _ h => h) (fun b ⟨s, z, st, e⟩ => hb.block b (g.heap.inb _ _ _ _ e).2)
    have haf : After 0 B s.H ρ old w (fun q => ∃ τ m, q = τ ++ m :: π ∧ s.k ≤ m ∧ m < s'.k) s.H ρ old w1 :=
      ⟨kp, hBel, fun _ h => .inl h, rfl, Fr.same (fun b hb' => hb.block b hb') (fun s b z st e => (g.heap.inb _ _ _ _ e).2)⟩
    have k1 : Keep ρ ρ old old w1 w1 := Keep.refl _ _ _
    have ga : Good 0 n B ρ old w1 (putD s.env o0.dst (.v (.map (some w.heap.size)))) s.H (a.put o0.dst (.map (some w.heap.size))) := g.put kp hBel hH g.low (fun t ht => by rw [d0] at ht; cases ht; omega) (by simp only [RelV])
    refine wpList_plain g1 fun K1 hK1 => ?_
    unfold Oper.wp
    have r1 : (execOp (a.put o0.dst (.map (some w.heap.size))).eval o1).run Try.prog w1 = .ok (.value ((a.put o0.dst (.map (some w.heap.size))).eval (.tmp 0))) w1 := by simp [execOp, q1]
    rw [r1]
    refine hK1 _ _ ?_
    have v0 : (a.put o0.dst (.map (some w.heap.size))).eval (.tmp 0) = .string name := by
      have := ga.env 0
      rw [d0] at this
      have e0 : (putD s.env (some 11) (.v (.map (some w.heap.size)))).get 0 = .v (.string name) := hname
      rw [e0] at this
      rw [d0]
      simp only [RelV] at this
      exact this
    rw [v0]
    have gb : Good 0 n B ρ old w1 (putD (putD s.env o0.dst (.v (.map (some w.heap.size)))) o1.dst (.v (.string name))) s.H ((a.put o0.dst (.map (some w.heap.size))).put o1.dst (.string name)) := ga.put k1 (Below.refl _ _) hH g.low (fun t ht => by rw [d1] at ht; cases ht; omega) (by simp only [RelV])
    generalize ha1 : (a.put o0.dst (.map (some w.heap.size))).put o1.dst (.string name) = a1 at *
    have w11 : a1.eval (.tmp 11) = .map (some w.heap.size) := by
      have := gb.env 11
      rw [d0, d1] at this
      have e0 : (putD (putD s.env (some 11) (.v (.map (some w.heap.size)))) (some 12) (.v (.string name))).get 11 = .v (.map (some w.heap.size)) := rfl
      rw [e0] at this
      simp only [RelV] at this
      exact this
    have w12 : a1.eval (.tmp 12) = .string name := by
      have := gb.env 12
      rw [d0, d1] at this
      have e0 : (putD (putD s.env (some 11) (.v (.map (some w.heap.size)))) (some 12) (.v (.string name))).get 12 = .v (.string name) := rfl
      rw [e0] at this
      simp only [RelV] at this
      exact this
    obtain ⟨u, hl, hu⟩ := look_run hmap name
    refine wpList_plain g2 fun K2 hK2 => ?_
    unfold Oper.wp
    have r2 : (execOp a1.eval o2).run Try.prog w1 = .ok (.value (.tuple #[u, .bool (posN name).isSome])) w1 := by simp [execOp, q2, w11, w12, hl]
    rw [r2]
    refine hK2 _ _ ?_
    have gc : Good 0 n B ρ old w1 (putD (putD (putD s.env o0.dst (.v (.map (some w.heap.size)))) o1.dst (.v (.string name))) o2.dst (.tup [fnN name, .v (.bool (posN name).isSome)])) s.H (a1.put o2.dst (.tuple #[u, .bool (posN name).isSome])) := gb.put k1 (Below.refl _ _) hH g.low (fun t ht => by rw [d2] at ht; cases ht; omega) (by
      simp only [RelV]
      refine ⟨_, rfl, ?_⟩
      simp only [RelL]
      exact ⟨fn_rel hu, by simp only [RelV], trivial⟩)
    rw [d0, d1, d2] at gc
    have gd : Good 0 n B ρ old w1 ((13, .tup [fnN name, .v (.bool (posN name).isSome)]) :: (12, .junk) :: (11, .junk) :: s.env) s.H (a1.put (some 13) (.tuple #[u, .bool (posN name).isSome])) := by
      refine ⟨fun t => ?_, gc.heap, gc.base, gc.size, gc.defers, gc.low⟩
      have := gc.env t
      by_cases t13 : t = 13
      · subst t13; exact this
      by_cases t12 : t = 12
      · subst t12
        have e0 : Env.get ((13, AV.tup [fnN name, .v (.bool (posN name).isSome)]) :: (12, .junk) :: (11, .junk) :: s.env) 12 = .junk := rfl
        rw [e0]; simp only [RelV]
      by_cases t11 : t = 11
      · subst t11
        have e0 : Env.get ((13, AV.tup [fnN name, .v (.bool (posN name).isSome)]) :: (12, .junk) :: (11, .junk) :: s.env) 11 = .junk := rfl
        rw [e0]; simp only [RelV]
      have e0 : Env.get ((13, AV.tup [fnN name, .v (.bool (posN name).isSome)]) :: (12, .junk) :: (11, .junk) :: s.env) t = s.env.get t := by
        simp only [Env.get, if_neg (Ne.symm t13), if_neg (Ne.symm t12), if_neg (Ne.symm t11)]
      have e1 : (putD (putD (putD s.env (some 11) (.v (.map (some w.heap.size)))) (some 12) (.v (.string name))) (some 13) (.tup [fnN name, .v (.bool (posN name).isSome)])).get t = s.env.get t := by
        simp only [putD, Env.get, if_neg (Ne.symm t13), if_neg (Ne.symm t12), if_neg (Ne.symm t11)]
      rw [e0]
      rw [e1] at this
      exact this
    rw [d2]
    exact evOps_wp hC hS (opsN.toList.drop 3) [] _ _ h1 hd gd hst fun ρ' old' a' w' ha g' => hQ ρ' old' a' w' (haf.trans ha (fun _ h => h) fun _ h => h) g'
  · cases h
end Go.Proofs.Ytaklelfdcbgebaa.Fw
