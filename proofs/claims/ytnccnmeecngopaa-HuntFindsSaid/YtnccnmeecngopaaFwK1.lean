/- The abstract evaluator, part K1: operations on values. -/
import Derived.Test.YtnccnmeecngopaaFwJ
set_option linter.unusedVariables false
set_option linter.unusedSimpArgs false
namespace Go.Proofs.Ytnccnmeecngopaa.Fw
open Go Go.RowKit

section
variable {P : Program} {B : Nat} {ρ : Map} {old : List Nat → Prop} {w : World} {st : List Nat} {H H' : Heap} {own : Site} {e : Env} {a : Act} {o : Oper} {m : MOp} {v : AV}

theorem does_mov {x : Operand} (hop : o.op = .move x ∨ o.op = .assign x) (hm : compOp P o.op = some m) (h : opSem own st m e H = some (v, H')) (hE : ERel ρ old w e a.tmps) (hH : HRel B ρ old w H) : Does P B own.d H ρ old w st a.eval o v H' := by
  have hm' : (opd x).map MOp.mov = some m := by rcases hop with hop | hop <;> simpa [hop, compOp] using hm
  cases hx : opd x with
  | none => simp [hx] at hm'
  | some x' =>
    simp [hx] at hm'; subst hm'
    simp only [opSem] at h; cases h
    exact Does.val hH (by rcases hop with hop | hop <;> simp [execOp, hop]) (opd_rel hE hx)

theorem does_pick {c x y : Operand} (hop : o.op = .pick c x y) (hm : compOp P o.op = some m) (h : opSem own st m e H = some (v, H')) (hE : ERel ρ old w e a.tmps) (hH : HRel B ρ old w H) : Does P B own.d H ρ old w st a.eval o v H' := by
  simp only [hop, compOp] at hm
  split at hm
  · rename_i c' x' y' h1 h2 h3
    cases hm
    simp only [opSem] at h
    have hc := opd_rel hE h1
    split at h
    · rename_i hv; rw [hv] at hc; have hc := rel_v hc
      cases h
      exact Does.val hH (by simp [execOp, hop, hc, asBool]) (opd_rel hE h2)
    · rename_i hv; rw [hv] at hc; have hc := rel_v hc
      cases h
      exact Does.val hH (by simp [execOp, hop, hc, asBool]) (opd_rel hE h3)
    · cases h
  · cases hm

theorem does_nilck {x : Operand} (hop : o.op = .nilCheck x) (hm : compOp P o.op = some m) (h : opSem own st m e H = some (v, H')) (hE : ERel ρ old w e a.tmps) (hH : HRel B ρ old w H) : Does P B own.d H ρ old w st a.eval o v H' := by
  simp only [hop, compOp] at hm
  cases hx : opd x with
  | none => simp [hx] at hm
  | some x' =>
    simp [hx] at hm; subst hm
    have hr := opd_rel hE hx
    simp only [opSem] at h
    split at h <;> first | (cases h; done) | skip
    · rename_i hv; rw [hv] at hr; cases h
      have hr0 := hr
      simp only [RelV] at hr
      obtain ⟨_, p, hp, _⟩ := hr
      exact Does.val (u := a.eval x) hH (by simp [execOp, hop, hp]) hr0
    · rename_i hv; rw [hv] at hr; cases h
      have hr0 := hr
      simp only [RelV] at hr
      obtain ⟨b, o', hp, _⟩ := hr
      exact Does.val (u := a.eval x) hH (by simp [execOp, hop, hp]) hr0
    · rename_i hv; rw [hv] at hr; cases h
      have hr0 := hr
      simp only [RelV] at hr
      obtain ⟨a', b', hp, _⟩ := hr
      exact Does.val (u := a.eval x) hH (by simp [execOp, hop, hp]) hr0

theorem does_bin {op : BinOp} {t t' : TypeId} {x y : Operand} (hop : o.op = .binOp op t x y t') (hm : compOp P o.op = some m) (h : opSem own st m e H = some (v, H')) (hE : ERel ρ old w e a.tmps) (hH : HRel B ρ old w H) : Does P B own.d H ρ old w st a.eval o v H' := by
  simp only [hop, compOp] at hm
  split at hm
  · rename_i x' y' h1 h2
    cases hm
    simp only [opSem] at h
    cases hb : binSem op (eqKind P t) (x'.ev e) (y'.ev e) with
    | none => simp [hb] at h
    | some z =>
      simp [hb] at h
      obtain ⟨rfl, rfl⟩ := h
      exact Does.pure hH (binSem_yields (ox := x) (oy := y) (opd_rel hE h1) (opd_rel hE h2) hb) fun w => by
        simp [execOp, hop]
        cases (eqGuard op t x y (a.eval x) (a.eval y)).run P w <;> rfl
  · cases hm

theorem does_un {op : UnOp} {t : TypeId} {x : Operand} (hop : o.op = .unOp op t x) (hm : compOp P o.op = some m) (h : opSem own st m e H = some (v, H')) (hE : ERel ρ old w e a.tmps) (hH : HRel B ρ old w H) : Does P B own.d H ρ old w st a.eval o v H' := by
  simp only [hop, compOp] at hm
  cases hx : opd x with
  | none => simp [hx] at hm
  | some x' =>
    simp [hx] at hm; subst hm
    simp only [opSem] at h
    cases hb : unSem op (x'.ev e) with
    | none => simp [hb] at h
    | some z =>
      simp [hb] at h
      obtain ⟨rfl, rfl⟩ := h
      exact Does.pure hH (unSem_yields (opd_rel hE hx) hb) fun w => by simp [execOp, hop]

theorem does_conv {s t : TypeId} {x : Operand} (hop : o.op = .convert s t x) (hm : compOp P o.op = some m) (h : opSem own st m e H = some (v, H')) (hE : ERel ρ old w e a.tmps) (hH : HRel B ρ old w H) : Does P B own.d H ρ old w st a.eval o v H' := by
  simp only [hop, compOp] at hm
  split at hm <;> first | (cases hm; done) | skip
  all_goals cases hm
  all_goals simp only [opSem] at h
  · rename_i d k x' h1 h2 h3
    cases hb : convSem (.toInt k) (x'.ev e) with
    | none => simp [hb] at h
    | some z =>
      simp [hb] at h
      obtain ⟨rfl, rfl⟩ := h
      exact Does.pure hH (conv_int h1 h2 (opd_rel hE h3) hb) fun w => by simp [execOp, hop]
  · rename_i d x' h1 h2 h3
    cases hb : convSem .toFlt (x'.ev e) with
    | none => simp [hb] at h
    | some z =>
      simp [hb] at h
      obtain ⟨rfl, rfl⟩ := h
      exact Does.pure hH (conv_flt h1 h2 (opd_rel hE h3) hb) fun w => by simp [execOp, hop]
  · rename_i x' h1 h2 h3
    cases hb : convSem .str (x'.ev e) with
    | none => simp [hb] at h
    | some z =>
      simp [hb] at h
      obtain ⟨rfl, rfl⟩ := h
      exact Does.pure hH (conv_str h1 h2 (opd_rel hE h3) hb) fun w => by simp [execOp, hop]

theorem does_mkfn {f : FuncId} {xs ys : Array Operand} (hop : o.op = .makeFunc (.func f) xs ys) (hm : compOp P o.op = some m) (h : opSem own st m e H = some (v, H')) (hE : ERel ρ old w e a.tmps) (hH : HRel B ρ old w H) : Does P B own.d H ρ old w st a.eval o v H' := by
  simp only [hop, compOp] at hm
  split at hm
  · rename_i l1 l2 h1 h2
    cases hm
    simp only [opSem] at h
    cases h
    refine Does.val (u := .func (.func f) (xs.map a.eval) (ys.map a.eval)) hH (by simp [execOp, hop, Instr.makeFunc]) ?_
    simp only [RelV]
    exact ⟨_, _, rfl, by simpa using opds_rel hE h1, by simpa using opds_rel hE h2⟩
  · cases hm

theorem does_extract {x : Operand} {i : Nat} (hop : o.op = .extract x i) (hm : compOp P o.op = some m) (h : opSem own st m e H = some (v, H')) (hE : ERel ρ old w e a.tmps) (hH : HRel B ρ old w H) : Does P B own.d H ρ old w st a.eval o v H' := by
  simp only [hop, compOp] at hm
  cases hx : opd x with
  | none => simp [hx] at hm
  | some x' =>
    simp [hx] at hm; subst hm
    have hr := opd_rel hE hx
    simp only [opSem] at h
    split at h
    · rename_i vs hv
      rw [hv] at hr
      simp only [RelV] at hr
      obtain ⟨ys, hy, hl⟩ := hr
      cases hi : vs[i]? with
      | none => simp [hi] at h
      | some z =>
        simp [hi] at h
        obtain ⟨rfl, rfl⟩ := h
        obtain ⟨u, hu, hr⟩ := relL_at hl i z hi
        have hu' : ys[i]? = some u := by simpa using hu
        exact Does.val hH (by simp [execOp, hop, hy, Instr.extract, hu']) hr
    · cases h

theorem does_load {t : TypeId} {x : Operand} (hop : o.op = .load t x) (hm : compOp P o.op = some m) (h : opSem own st m e H = some (v, H')) (hE : ERel ρ old w e a.tmps) (hH : HRel B ρ old w H) : Does P B own.d H ρ old w st a.eval o v H' := by
  simp only [hop, compOp] at hm
  split at hm
  · rename_i agg n x' h1 h2
    cases hm
    have hr := opd_rel hE h2
    simp only [opSem] at h
    split at h
    · rename_i s st' i off hv
      rw [hv] at hr
      split at h
      · cases h
      · rename_i blk hrow
        obtain ⟨b, hρ, hBb, hs, hg, c, ty, hb, hc⟩ := hH.at hrow
        split at h
        · cases h
        · rename_i cs hi
          cases ht : takeCells agg n cs off with
          | none => simp [ht] at h
          | some z =>
            simp [ht] at h
            obtain ⟨rfl, rfl⟩ := h
            simp only [RelV] at hr
            obtain ⟨_, p, hp, hq⟩ := hr
            obtain rfl := hq _ _ hρ
            obtain ⟨u, hu, hr'⟩ := take_run (P := P) h1 (hc.at hb hi) ht
            exact Does.val hH (by simp [execOp, hop, hp, Instr.loadAt, Instr.sureAddr, hu]) hr'
    · rename_i cs hv
      rw [hv] at hr
      cases ht : takeCells agg n cs 0 with
      | none => simp [ht] at h
      | some z =>
        simp [ht] at h
        obtain ⟨rfl, rfl⟩ := h
        simp only [RelV] at hr
        obtain ⟨b, o', hp, hq⟩ := hr
        obtain ⟨u, hu, hr'⟩ := take_run (P := P) h1 hq.at ht
        exact Does.val hH (by simp [execOp, hop, hp, Instr.loadAt, Instr.sureAddr]; rw [show (⟨b, o', none⟩ : Addr) = ⟨b, o' + 0, none⟩ from rfl, hu]; rfl) hr'
    · cases h
  · cases hm
end
end Go.Proofs.Ytnccnmeecngopaa.Fw
