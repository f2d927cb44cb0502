/- The abstract evaluator, part K: every operation but the calls does what it says. -/
import Derived.Test.YtnphdnokedhhkaaFwE
import Derived.IntWalk
import Derived.Deep.AppendSrc
set_option linter.unusedVariables false
set_option linter.unusedSimpArgs false
namespace Go.Proofs.Ytnphdnokedhhkaa.Fw
open Go Go.RowKit

section
variable {P : Program} {B : Nat} {ρ : Map} {old : List Nat → Prop} {w : World} {st : List Nat} {H H' : Heap} {own : Site} {e : Env} {a : Act} {o : Oper} {m : MOp} {v : AV}

theorem does_mov {x : Operand} (hop : o.op = .move x ∨ o.op = .assign x) (hm : compOp P o.op = some m) (h : opSem own st m e H = some (v, H')) (hE : ERel ρ old w e a.tmps) (hH : HRel B ρ old w H) : Does P B own.d H ρ old w st a.eval o v H' := by
  have hm' : (opd x).map MOp.mov = some m := by rcases hop with hop | hop <;> simpa [hop, compOp] using hm
  cases hx : opd x with
  | none => simp [hx] at hm'
  | some x' =>
    simp [hx] at hm'; subst hm'
    simp only [opSem] at h; cases h
    exact Does.val hH (by rcases hop with hop | hop <;> simp [execOp, hop]) (opd_rel hE hx)

theorem does_pick {c x y : Operand} (hop : o.op = .pick c x y) (hm : compOp P o.op = some m) (h : opSem own st m e H = some (v, H')) (hE : ERel ρ old w e a.tmps) (hH : HRel B ρ old w H) : Does P B own.d H ρ old w st a.eval o v H' := by
  simp only [hop, compOp] at hm
  split at hm
  · rename_i c' x' y' h1 h2 h3
    cases hm
    simp only [opSem] at h
    have hc := opd_rel hE h1
    split at h
    · rename_i hv; rw [hv] at hc; have hc := rel_v hc
      cases h
      exact Does.val hH (by simp [execOp, hop, hc, asBool]) (opd_rel hE h2)
    · rename_i hv; rw [hv] at hc; have hc := rel_v hc
      cases h
      exact Does.val hH (by simp [execOp, hop, hc, asBool]) (opd_rel hE h3)
    · cases h
  · cases hm

theorem does_nilck {x : Operand} (hop : o.op = .nilCheck x) (hm : compOp P o.op = some m) (h : opSem own st m e H = some (v, H')) (hE : ERel ρ old w e a.tmps) (hH : HRel B ρ old w H) : Does P B own.d H ρ old w st a.eval o v H' := by
  simp only [hop, compOp] at hm
  cases hx : opd x with
  | none => simp [hx] at hm
  | some x' =>
    simp [hx] at hm; subst hm
    have hr := opd_rel hE hx
    simp only [opSem] at h
    split at h <;> first | (cases h; done) | skip
    · rename_i hv; rw [hv] at hr; cases h
      have hr0 := hr
      simp only [RelV] at hr
      obtain ⟨_, p, hp, _⟩ := hr
      exact Does.val (u := a.eval x) hH (by simp [execOp, hop, hp]) hr0
    · rename_i hv; rw [hv] at hr; cases h
      have hr0 := hr
      simp only [RelV] at hr
      obtain ⟨b, o', hp, _⟩ := hr
      exact Does.val (u := a.eval x) hH (by simp [execOp, hop, hp]) hr0
    · rename_i hv; rw [hv] at hr; cases h
      have hr0 := hr
      simp only [RelV] at hr
      obtain ⟨a', b', hp, _⟩ := hr
      exact Does.val (u := a.eval x) hH (by simp [execOp, hop, hp]) hr0

theorem does_bin {op : BinOp} {t t' : TypeId} {x y : Operand} (hop : o.op = .binOp op t x y t') (hm : compOp P o.op = some m) (h : opSem own st m e H = some (v, H')) (hE : ERel ρ old w e a.tmps) (hH : HRel B ρ old w H) : Does P B own.d H ρ old w st a.eval o v H' := by
  simp only [hop, compOp] at hm
  split at hm
  · rename_i x' y' h1 h2
    cases hm
    simp only [opSem] at h
    cases hb : binSem op (eqKind P t) (x'.ev e) (y'.ev e) with
    | none => simp [hb] at h
    | some z =>
      simp [hb] at h
      obtain ⟨rfl, rfl⟩ := h
      exact Does.pure hH (binSem_yields (ox := x) (oy := y) (opd_rel hE h1) (opd_rel hE h2) hb) fun w => by
        simp [execOp, hop]
        cases (eqGuard op t x y (a.eval x) (a.eval y)).run P w <;> rfl
  · cases hm

theorem does_un {op : UnOp} {t : TypeId} {x : Operand} (hop : o.op = .unOp op t x) (hm : compOp P o.op = some m) (h : opSem own st m e H = some (v, H')) (hE : ERel ρ old w e a.tmps) (hH : HRel B ρ old w H) : Does P B own.d H ρ old w st a.eval o v H' := by
  simp only [hop, compOp] at hm
  cases hx : opd x with
  | none => simp [hx] at hm
  | some x' =>
    simp [hx] at hm; subst hm
    simp only [opSem] at h
    cases hb : unSem op (x'.ev e) with
    | none => simp [hb] at h
    | some z =>
      simp [hb] at h
      obtain ⟨rfl, rfl⟩ := h
      exact Does.pure hH (unSem_yields (opd_rel hE hx) hb) fun w => by simp [execOp, hop]

theorem does_conv {s t : TypeId} {x : Operand} (hop : o.op = .convert s t x) (hm : compOp P o.op = some m) (h : opSem own st m e H = some (v, H')) (hE : ERel ρ old w e a.tmps) (hH : HRel B ρ old w H) : Does P B own.d H ρ old w st a.eval o v H' := by
  simp only [hop, compOp] at hm
  split at hm <;> first | (cases hm; done) | skip
  all_goals cases hm
  all_goals simp only [opSem] at h
  · rename_i d k x' h1 h2 h3
    cases hb : convSem (.toInt k) (x'.ev e) with
    | none => simp [hb] at h
    | some z =>
      simp [hb] at h
      obtain ⟨rfl, rfl⟩ := h
      exact Does.pure hH (conv_int h1 h2 (opd_rel hE h3) hb) fun w => by simp [execOp, hop]
  · rename_i d x' h1 h2 h3
    cases hb : convSem .toFlt (x'.ev e) with
    | none => simp [hb] at h
    | some z =>
      simp [hb] at h
      obtain ⟨rfl, rfl⟩ := h
      exact Does.pure hH (conv_flt h1 h2 (opd_rel hE h3) hb) fun w => by simp [execOp, hop]
  · rename_i x' h1 h2 h3
    cases hb : convSem .str (x'.ev e) with
    | none => simp [hb] at h
    | some z =>
      simp [hb] at h
      obtain ⟨rfl, rfl⟩ := h
      exact Does.pure hH (conv_str h1 h2 (opd_rel hE h3) hb) fun w => by simp [execOp, hop]

theorem does_mkfn {f : FuncId} {xs ys : Array Operand} (hop : o.op = .makeFunc (.func f) xs ys) (hm : compOp P o.op = some m) (h : opSem own st m e H = some (v, H')) (hE : ERel ρ old w e a.tmps) (hH : HRel B ρ old w H) : Does P B own.d H ρ old w st a.eval o v H' := by
  simp only [hop, compOp] at hm
  split at hm
  · rename_i l1 l2 h1 h2
    cases hm
    simp only [opSem] at h
    cases h
    refine Does.val (u := .func (.func f) (xs.map a.eval) (ys.map a.eval)) hH (by simp [execOp, hop, Instr.makeFunc]) ?_
    simp only [RelV]
    exact ⟨_, _, rfl, by simpa using opds_rel hE h1, by simpa using opds_rel hE h2⟩
  · cases hm

theorem does_extract {x : Operand} {i : Nat} (hop : o.op = .extract x i) (hm : compOp P o.op = some m) (h : opSem own st m e H = some (v, H')) (hE : ERel ρ old w e a.tmps) (hH : HRel B ρ old w H) : Does P B own.d H ρ old w st a.eval o v H' := by
  simp only [hop, compOp] at hm
  cases hx : opd x with
  | none => simp [hx] at hm
  | some x' =>
    simp [hx] at hm; subst hm
    have hr := opd_rel hE hx
    simp only [opSem] at h
    split at h
    · rename_i vs hv
      rw [hv] at hr
      simp only [RelV] at hr
      obtain ⟨ys, hy, hl⟩ := hr
      cases hi : vs[i]? with
      | none => simp [hi] at h
      | some z =>
        simp [hi] at h
        obtain ⟨rfl, rfl⟩ := h
        obtain ⟨u, hu, hr⟩ := relL_at hl i z hi
        have hu' : ys[i]? = some u := by simpa using hu
        exact Does.val hH (by simp [execOp, hop, hy, Instr.extract, hu']) hr
    · cases h

theorem does_load {t : TypeId} {x : Operand} (hop : o.op = .load t x) (hm : compOp P o.op = some m) (h : opSem own st m e H = some (v, H')) (hE : ERel ρ old w e a.tmps) (hH : HRel B ρ old w H) : Does P B own.d H ρ old w st a.eval o v H' := by
  simp only [hop, compOp] at hm
  split at hm
  · rename_i agg n x' h1 h2
    cases hm
    have hr := opd_rel hE h2
    simp only [opSem] at h
    split at h
    · rename_i s st' i off hv
      rw [hv] at hr
      split at h
      · cases h
      · rename_i blk hrow
        split at h
        · cases h
        · rename_i cs hi
          obtain ⟨b, hρ, hBb, hs, hg, c, ty, hb, hc⟩ := hH.at hrow hi
          cases ht : takeCells agg n cs off with
          | none => simp [ht] at h
          | some z =>
            simp [ht] at h
            obtain ⟨rfl, rfl⟩ := h
            simp only [RelV] at hr
            obtain ⟨_, p, hp, hq⟩ := hr
            obtain rfl := hq _ _ hρ
            obtain ⟨u, hu, hr'⟩ := take_run (P := P) h1 (hc.at hb hi) ht
            exact Does.val hH (by simp [execOp, hop, hp, Instr.loadAt, Instr.sureAddr, hu]) hr'
    · rename_i cs hv
      rw [hv] at hr
      cases ht : takeCells agg n cs 0 with
      | none => simp [ht] at h
      | some z =>
        simp [ht] at h
        obtain ⟨rfl, rfl⟩ := h
        simp only [RelV] at hr
        obtain ⟨b, o', hp, hq⟩ := hr
        obtain ⟨u, hu, hr'⟩ := take_run (P := P) h1 hq.at ht
        exact Does.val hH (by simp [execOp, hop, hp, Instr.loadAt, Instr.sureAddr]; rw [show (⟨b, o', none⟩ : Addr) = ⟨b, o' + 0, none⟩ from rfl, hu]; rfl) hr'
    · cases h
  · cases hm
end
end Go.Proofs.Ytnphdnokedhhkaa.Fw

set_option linter.unusedVariables false
set_option linter.unusedSimpArgs false
namespace Go.Proofs.Ytnphdnokedhhkaa.Fw
open Go Go.RowKit

section
variable {P : Program} {B : Nat} {ρ : Map} {old : List Nat → Prop} {w : World} {st : List Nat} {H H' : Heap} {own : Site} {e : Env} {a : Act} {o : Oper} {m : MOp} {v : AV}

theorem does_faddr {t : TypeId} {x : Operand} {i : Nat} (hop : o.op = .fieldAddr t x i) (hm : compOp P o.op = some m) (h : opSem own st m e H = some (v, H')) (hE : ERel ρ old w e a.tmps) (hH : HRel B ρ old w H) : Does P B own.d H ρ old w st a.eval o v H' := by
  simp only [hop, compOp] at hm
  split at hm <;> first | (cases hm; done) | skip
  rename_i fs x' h1 h2
  split at hm <;> first | (cases hm; done) | skip
  rename_i f hf
  split at hm <;> first | (cases hm; done) | skip
  rename_i n hn
  split at hm <;> first | (cases hm; done) | skip
  rename_i hpos
  cases hm
  have hr := opd_rel hE h2
  have run : ∀ p, a.eval x = .pointer (some p) → (execOp a.eval o).run P w = .ok (.value (.pointer (some (p.add f.offset)))) w := by
    intro p hp
    have hs := tySize_run hn w
    simp [execOp, hop, hp, Instr.fieldAt, run_underlying h1, hf, Instr.sureAddr, fieldPlace, hs, show n ≠ 0 by omega]
  simp only [opSem] at h
  split at h
  · rename_i s st' j off hv
    rw [hv] at hr
    cases h
    simp only [RelV] at hr
    obtain ⟨ho, p, hp, hq⟩ := hr
    refine Does.val hH (run p hp) ?_
    simp only [RelV]
    refine ⟨ho, _, rfl, fun b z hb => ?_⟩
    rw [hq b z hb, add_at, Nat.add_assoc]
  · rename_i cs hv
    rw [hv] at hr
    cases h
    simp only [RelV] at hr
    obtain ⟨b, o', hp, hq⟩ := hr
    refine Does.val hH (run _ hp) ?_
    simp only [RelV]
    exact ⟨b, o' + f.offset, by rw [add_at], hq.drop⟩
  · cases h

theorem take_part {t : TypeId} {agg : Bool} {n : Nat} (ht : tyLoad P t = some (agg, n)) {cs : List AV} {ys : Array Value} {off : Nat} (hl : RelL ρ old w cs ys.toList) (h : takeCells agg n cs off = some v) :
    ∃ u, (part t ys off).run P w = .ok u w ∧ RelV ρ old w v u := by
  obtain ⟨h1, h2⟩ := tyLoad_run ht w
  have hlen := relL_length hl
  unfold takeCells at h
  cases agg with
  | true =>
    simp only [if_true] at h
    split at h
    · rename_i hle
      cases h
      refine ⟨.agg (ys.extract off (off + n)), by simp [part, h1, h2], ?_⟩
      simp only [RelV]
      refine ⟨_, rfl, ?_⟩
      have gen : ∀ (cs : List AV) (ys : List Value) (k n : Nat), RelL ρ old w cs ys → RelL ρ old w ((cs.drop k).take n) ((ys.drop k).take n) := by
        intro cs
        induction cs with
        | nil => intro ys k n h; cases ys with
          | nil => simp [RelL]
          | cons _ _ => simp only [RelL] at h
        | cons c cs ih =>
          intro ys k n h
          cases ys with
          | nil => simp only [RelL] at h
          | cons y ys =>
            simp only [RelL] at h
            cases k with
            | zero =>
              cases n with
              | zero => simp [RelL]
              | succ n =>
                simp only [List.drop_zero, List.take_succ_cons, RelL]
                exact ⟨h.1, by simpa using ih ys 0 n h.2⟩
            | succ k => simpa using ih ys k n h.2
      have := gen cs ys.toList off n hl
      simpa [Array.toList_extract, List.extract_eq_take_drop] using this
    · cases h
  | false =>
    simp only [Bool.false_eq_true, if_false] at h
    obtain ⟨u, h3, h4⟩ := relL_at hl off v h
    have h3' : ys[off]? = some u := by simpa using h3
    exact ⟨u, by simp [part, h1, h3'], h4⟩

theorem does_field {t : TypeId} {x : Operand} {i : Nat} (hop : o.op = .field t x i) (hm : compOp P o.op = some m) (h : opSem own st m e H = some (v, H')) (hE : ERel ρ old w e a.tmps) (hH : HRel B ρ old w H) : Does P B own.d H ρ old w st a.eval o v H' := by
  simp only [hop, compOp] at hm
  split at hm <;> first | (cases hm; done) | skip
  rename_i fs x' h1 h2
  split at hm <;> first | (cases hm; done) | skip
  rename_i f hf
  cases ht : tyLoad P f.type with
  | none => simp [ht] at hm
  | some an =>
    obtain ⟨agg, n⟩ := an
    simp [ht] at hm; subst hm
    have hr := opd_rel hE h2
    simp only [opSem] at h
    split at h
    · rename_i cs hv
      rw [hv] at hr
      cases hk : takeCells agg n cs f.offset with
      | none => simp [hk] at h
      | some z =>
        simp [hk] at h
        obtain ⟨rfl, rfl⟩ := h
        simp only [RelV] at hr
        obtain ⟨ys, hy, hl⟩ := hr
        obtain ⟨u, hu, hr'⟩ := take_part (P := P) ht hl hk
        exact Does.val hH (by simp [execOp, hop, hy, Instr.field, run_underlying h1, hf, asAgg, hu]) hr'
    · cases h

theorem idx_spec {i : AV} {n k : Nat} {u : Value} (h : idx i n = some k) (hr : RelV ρ old w i u) : ∃ ik, u = .int ik (k : Int) ∧ k < n := by
  unfold idx at h
  split at h
  · rename_i ik z
    split at h
    · rename_i hz
      cases h
      exact ⟨ik, by rw [rel_v hr, Int.toNat_of_nonneg hz.1], by omega⟩
    · cases h
  · cases h

theorem does_index {t : TypeId} {x i : Operand} (hop : o.op = .index t x i) (hm : compOp P o.op = some m) (h : opSem own st m e H = some (v, H')) (hE : ERel ρ old w e a.tmps) (hH : HRel B ρ old w H) : Does P B own.d H ρ old w st a.eval o v H' := by
  simp only [hop, compOp] at hm
  split at hm <;> first | (cases hm; done) | skip
  · rename_i n el x' i' h1 h2 h3
    cases ht : tyLoad P el with
    | none => simp [ht] at hm
    | some an =>
      obtain ⟨agg, z⟩ := an
      simp [ht] at hm; subst hm
      have hr := opd_rel hE h2
      have hi := opd_rel hE h3
      simp only [opSem] at h
      split at h
      · rename_i cs hv
        rw [hv] at hr
        split at h
        · cases h
        · rename_i k hk
          obtain ⟨ik, hu, hlt⟩ := idx_spec hk hi
          cases hq : takeCells agg z cs (k * z) with
          | none => simp [hq] at h
          | some y =>
            simp [hq] at h
            obtain ⟨rfl, rfl⟩ := h
            simp only [RelV] at hr
            obtain ⟨ys, hy, hl⟩ := hr
            obtain ⟨u, hu', hr'⟩ := take_part (P := P) ht hl hq
            have hs := (tyLoad_run ht w).2
            exact Does.val hH (by simp [execOp, hop, hy, hu, Instr.index, asIntOf, run_underlying h1, hlt, hs, hu', show (0:Int) ≤ (k:Int) from Int.natCast_nonneg k]) hr'
      · cases h
  · rename_i x' i' h1 h2 h3
    cases hm
    have hr := opd_rel hE h2
    have hi := opd_rel hE h3
    simp only [opSem] at h
    split at h
    · rename_i s hv
      rw [hv] at hr
      split at h
      · cases h
      · rename_i k hk
        obtain ⟨ik, hu, hlt⟩ := idx_spec hk hi
        have hs := rel_v hr
        cases hq : s.data[k]? with
        | none => simp [hq] at h
        | some y =>
          simp only [hq, Option.map_some, Option.some.injEq, Prod.mk.injEq] at h
          obtain ⟨rfl, rfl⟩ := h
          have hsk : s[k]? = some y := by
            have : k < s.data.size := hlt
            rw [Array.getElem?_eq_getElem this] at hq
            cases hq
            rw [getElem?_pos s k hlt]; rfl
          exact Does.val (u := .int .u8 y.toNat) hH (by simp [execOp, hop, hs, hu, Instr.index, asIntOf, run_underlying h1, hsk, show (0:Int) ≤ (k:Int) from Int.natCast_nonneg k]) (rel_v_mk _)
    · cases h

theorem RelEls.get {b z : Nat} : ∀ {o k : Nat} {els : List (List AV)} {cs : List AV}, RelEls ρ old w b o z els → els[k]? = some cs → cs.length = z ∧ RelCells ρ old w b (o + k * z) cs
  | o, k, [], cs, h, hk => by simp at hk
  | o, 0, c :: r, cs, h, hk => by
    simp only [RelEls] at h
    simp at hk; subst hk
    exact ⟨h.1, by simpa using h.2.1⟩
  | o, k + 1, c :: r, cs, h, hk => by
    simp only [RelEls] at h
    simp at hk
    have := RelEls.get h.2.2 hk
    refine ⟨this.1, ?_⟩
    rw [show o + (k + 1) * z = o + z + k * z by rw [Nat.add_mul]; omega]
    exact this.2

theorem does_iaddr {t : TypeId} {x i : Operand} (hop : o.op = .indexAddr t x i) (hm : compOp P o.op = some m) (h : opSem own st m e H = some (v, H')) (hE : ERel ρ old w e a.tmps) (hH : HRel B ρ old w H) : Does P B own.d H ρ old w st a.eval o v H' := by
  simp only [hop, compOp] at hm
  split at hm <;> first | (cases hm; done) | skip
  · rename_i n el x' i' h1 h2 h3
    cases ht : tySize P el with
    | none => simp [ht] at hm
    | some z =>
      simp [ht] at hm; subst hm
      have hr := opd_rel hE h2
      have hi := opd_rel hE h3
      have hs := tySize_run ht w
      have run : ∀ p k ik, a.eval x = .pointer (some p) → a.eval i = .int ik (k : Nat) → k < n → (execOp a.eval o).run P w = .ok (.value (.pointer (some (p.add (k * z))))) w := by
        intro p k ik hp hk hlt
        simp [execOp, hop, hp, hk, Instr.indexAt, asIntOf, run_underlying h1, Instr.sureAddr, hlt, hs, show (0:Int) ≤ (k:Int) from Int.natCast_nonneg k]
      simp only [opSem] at h
      split at h
      · rename_i s st' j off hv
        rw [hv] at hr
        cases hk : idx (i'.ev e) n with
        | none => simp [hk] at h
        | some k =>
          simp [hk] at h
          obtain ⟨rfl, rfl⟩ := h
          obtain ⟨ik, hu, hlt⟩ := idx_spec hk hi
          simp only [RelV] at hr
          obtain ⟨ho, p, hp, hq⟩ := hr
          refine Does.val hH (run p k ik hp hu hlt) ?_
          simp only [RelV]
          refine ⟨ho, _, rfl, fun b z' hb => ?_⟩
          rw [hq b z' hb, add_at, Nat.add_assoc]
      · rename_i cs hv
        rw [hv] at hr
        cases hk : idx (i'.ev e) n with
        | none => simp [hk] at h
        | some k =>
          simp [hk] at h
          obtain ⟨rfl, rfl⟩ := h
          obtain ⟨ik, hu, hlt⟩ := idx_spec hk hi
          simp only [RelV] at hr
          obtain ⟨b, o', hp, hq⟩ := hr
          refine Does.val hH (run _ k ik hp hu hlt) ?_
          simp only [RelV]
          exact ⟨b, o' + k * z, by rw [add_at], hq.drop⟩
      · simp at h
      · simp at h
      · cases h
  · rename_i el x' i' h1 h2 h3
    cases ht : tySize P el with
    | none => simp [ht] at hm
    | some z =>
      simp [ht] at hm; subst hm
      have hr := opd_rel hE h2
      have hi := opd_rel hE h3
      have hs := tySize_run ht w
      have run : ∀ p len cap k ik, a.eval x = .slice (some p) len cap → a.eval i = .int ik (k : Nat) → k < len → (execOp a.eval o).run P w = .ok (.value (.pointer (some (p.add (k * z))))) w := by
        intro p len cap k ik hp hk hlt
        simp [execOp, hop, hp, hk, Instr.indexAt, asIntOf, run_underlying h1, hlt, hs, show (0:Int) ≤ (k:Int) from Int.natCast_nonneg k]
      simp only [opSem] at h
      split at h
      · simp at h
      · simp at h
      · rename_i s st' z' off len full hv
        rw [hv] at hr
        simp only [Option.isSome_none, Bool.false_eq_true, if_false] at h
        split at h
        · rename_i hz; subst hz
          cases hk : idx (i'.ev e) len with
          | none => simp [hk] at h
          | some k =>
            simp [hk] at h
            obtain ⟨rfl, rfl⟩ := h
            obtain ⟨ik, hu, hlt⟩ := idx_spec hk hi
            simp only [RelV] at hr
            obtain ⟨ho, ⟨_, _, h0⟩ | ⟨_, p, cap, hp, hlc, hfull, hq⟩⟩ := hr
            · omega
            refine Does.val hH (run p len cap k ik hp hu hlt) ?_
            simp only [RelV]
            refine ⟨ho, _, rfl, fun b z'' hb => ?_⟩
            obtain ⟨rfl, hq2⟩ := hq b z'' hb
            rw [hq2.1 (by omega), add_at, Nat.add_mul]
            simp
        · cases h
      · rename_i z' els hv
        rw [hv] at hr
        simp only [Option.isSome_none, Bool.false_eq_true, if_false] at h
        split at h
        · cases h
        · rename_i k hk
          split at h
          · cases h
          · rename_i cs hcs
            split at h
            · rename_i hz; subst hz
              cases h
              obtain ⟨ik, hu, hlt⟩ := idx_spec hk hi
              simp only [RelV] at hr
              rcases hr with ⟨h0, _⟩ | ⟨p, cap, hp, hlc, hsp, hq⟩
              · rw [h0] at hcs; simp at hcs
              refine Does.val hH (run p _ cap k ik hp hu hlt) ?_
              obtain ⟨_, hc⟩ := hq.get hcs
              simp only [RelV]
              have hps : p = ⟨p.block, p.off, none⟩ := by
                have := hsp (by intro h0; rw [h0] at hcs; simp at hcs)
                cases p; simp_all
              exact ⟨p.block, p.off + k * z', by rw [hps, add_at], hc⟩
            · cases h
      · cases h
end
end Go.Proofs.Ytnphdnokedhhkaa.Fw

set_option linter.unusedVariables false
set_option linter.unusedSimpArgs false
namespace Go.Proofs.Ytnphdnokedhhkaa.Fw
open Go Go.RowKit

section
variable {P : Program} {B : Nat} {ρ : Map} {old : List Nat → Prop} {w : World} {st : List Nat} {H H' : Heap} {own : Site} {e : Env} {a : Act} {o : Oper} {m : MOp} {v : AV}

/-! ### lists -/
theorem relL_take : ∀ {cs : List AV} {ys : List Value} (k : Nat), RelL ρ old w cs ys → RelL ρ old w (cs.take k) (ys.take k)
  | [], [], k, _ => by simp [RelL]
  | _ :: _, _ :: _, 0, _ => by simp [RelL]
  | c :: cs, y :: ys, k + 1, h => by simp only [RelL] at h; simp only [List.take_succ_cons, RelL]; exact ⟨h.1, relL_take k h.2⟩
  | [], _ :: _, _, h => by simp only [RelL] at h
  | _ :: _, [], _, h => by simp only [RelL] at h
theorem relL_drop : ∀ {cs : List AV} {ys : List Value} (k : Nat), RelL ρ old w cs ys → RelL ρ old w (cs.drop k) (ys.drop k)
  | [], [], k, _ => by simp [RelL]
  | _ :: _, _ :: _, 0, h => by simpa using h
  | c :: cs, y :: ys, k + 1, h => by simp only [RelL] at h; simpa using relL_drop k h.2
  | [], _ :: _, _, h => by simp only [RelL] at h
  | _ :: _, [], _, h => by simp only [RelL] at h
theorem relL_append : ∀ {cs : List AV} {ys : List Value} {ds : List AV} {zs : List Value}, RelL ρ old w cs ys → RelL ρ old w ds zs → RelL ρ old w (cs ++ ds) (ys ++ zs)
  | [], [], _, _, _, h => by simpa using h
  | c :: cs, y :: ys, _, _, h1, h2 => by simp only [RelL] at h1; simp only [List.cons_append, RelL]; exact ⟨h1.1, relL_append h1.2 h2⟩
  | [], _ :: _, _, _, h, _ => by simp only [RelL] at h
  | _ :: _, [], _, _, h, _ => by simp only [RelL] at h
theorem fold_fill (off : Nat) : ∀ (l : List Value) (k : Nat) (cells : Array Value), off + k + l.length ≤ cells.size →
    ((l.zipIdx k).foldl (fun (cs : Array Value) (p : Value × Nat) => cs.setIfInBounds (off + p.2) p.1) cells).toList = cells.toList.take (off + k) ++ l ++ cells.toList.drop (off + k + l.length)
  | [], k, cells, _ => by simp
  | c :: l, k, cells, h => by
    simp only [List.length_cons] at h
    simp only [List.zipIdx_cons, List.foldl_cons]
    rw [fold_fill off l (k + 1) _ (by simp; omega)]
    simp only [Array.toList_setIfInBounds]
    rw [show off + (k + 1) = off + k + 1 by omega]
    have := list_seg_step cells.toList (off + k) c l (by simp; omega)
    simpa [Nat.add_assoc, Nat.add_comm, Nat.add_left_comm] using this

def PartsOk (R : Opd → Operand → Prop) (place : Nat → Option (Nat × Nat)) : List (Nat × Operand) → List (Nat × Nat × Opd) → Prop
  | [], [] => True
  | p :: r, q :: s => (place p.1 = some (q.1, q.2.1) ∧ R q.2.2 p.2) ∧ PartsOk R place r s
  | _, _ => False
theorem fill_run (place : Nat → Option (Nat × Nat)) : ∀ (parts : List (Nat × Operand)) (ps : List (Nat × Nat × Opd)) (cs : List AV) (cells : Array Value) (r : List AV),
    PartsOk (fun y x => RelV ρ old w (y.ev e) (a.eval x)) place parts ps →
    RelL ρ old w cs cells.toList → fillParts cs (evParts e ps) = some r →
    ∃ cells' : Array Value, Instr.fill place cells (parts.map fun p => (p.1, a.eval p.2)) = some cells' ∧ RelL ρ old w r cells'.toList
  | [], [], cs, cells, r, hp, hc, h => by
    simp only [evParts, fillParts] at h
    cases h
    exact ⟨cells, rfl, hc⟩
  | [], _ :: _, _, _, _, hp, _, _ => by simp only [PartsOk] at hp
  | _ :: _, [], _, _, _, hp, _, _ => by simp only [PartsOk] at hp
  | (i, x) :: parts, (off, n, y) :: ps, cs, cells, r, hp, hc, h => by
    simp only [PartsOk] at hp
    obtain ⟨h1, h2⟩ := hp
    simp only [evParts, fillParts] at h
    split at h
    · rename_i hl
      obtain ⟨k1, k2, k3⟩ := cells_rel hl.2.2 h1.2
      have hsz : (a.eval x).cells.size = n := by rw [← Array.length_toList, k3]; exact hl.1
      have hcl : cells.size = cs.length := by rw [← Array.length_toList, relL_length hc]
      have hl2 := hl.2.1
      have hf := fold_fill off (a.eval x).cells.toList 0 cells (by simp [hsz]; omega)
      have hc' : RelL ρ old w (putCells cs off (cellsOf (y.ev e))) ((a.eval x).cells.zipIdx.foldl (fun (cs : Array Value) (p : Value × Nat) => cs.setIfInBounds (off + p.2) p.1) cells).toList := by
        rw [← Array.foldl_toList, Array.toList_zipIdx, hf]
        unfold putCells
        rw [k3]
        simpa using relL_append (relL_append (relL_take off hc) k1) (relL_drop (off + (cellsOf (y.ev e)).length) hc)
      obtain ⟨cells', h3, h4⟩ := fill_run place parts ps _ _ r h2 hc' h
      refine ⟨cells', ?_, h4⟩
      simp only [List.map_cons, Instr.fill, h1.1]
      rw [if_neg (by simp [hsz]; omega)]
      exact h3
    · cases h

theorem structPlaces_run : ∀ {fs : List Field} {ps : List (Nat × Nat)}, structPlaces P fs = some ps → ∀ w : World, (fs.mapM fun f => Prod.mk f.offset <$> sizeOf f.type : Sem (List (Nat × Nat))).run P w = .ok ps w
  | [], ps, h, w => by simp only [structPlaces] at h; cases h; rfl
  | f :: r, ps, h, w => by
    simp only [structPlaces] at h
    split at h
    · rename_i n l h1 h2
      cases h
      have := structPlaces_run h2 w
      simp [tySize_run h1 w, this]
    · cases h
theorem structParts_ok (R : Opd → Operand → Prop) (hR : ∀ x y, opd x = some y → R y x) {places : List (Nat × Nat)} : ∀ {parts : List (Nat × Operand)} {ps : List (Nat × Nat × Opd)}, structParts places parts = some ps → PartsOk R (fun i => places[i]?) parts ps
  | [], ps, h => by simp only [structParts] at h; cases h; simp [PartsOk]
  | (i, x) :: r, ps, h => by
    simp only [structParts] at h
    split at h
    · cases h
    · rename_i off n hp
      split at h
      · rename_i y l h1 h2
        cases h
        exact ⟨⟨hp, hR _ _ h1⟩, structParts_ok R hR h2⟩
      · cases h
theorem arrParts_ok (R : Opd → Operand → Prop) (hR : ∀ x y, opd x = some y → R y x) {z : Nat} : ∀ {parts : List (Nat × Operand)} {ps : List (Nat × Nat × Opd)}, arrParts z parts = some ps → PartsOk R (fun i => some (i * z, z)) parts ps
  | [], ps, h => by simp only [arrParts] at h; cases h; simp [PartsOk]
  | (i, x) :: r, ps, h => by
    simp only [arrParts] at h
    split at h
    · rename_i y l h1 h2
      cases h
      exact ⟨⟨rfl, hR _ _ h1⟩, arrParts_ok R hR h2⟩
    · cases h
theorem mapM_array {α β : Type} (xs : Array α) (f : α → Sem β) (w : World) {l : List β} (h : (xs.toList.mapM f).run P w = .ok l w) : (xs.mapM f).run P w = .ok l.toArray w := by
  rw [Array.mapM_eq_mapM_toList]
  simp [h]

theorem does_build {t : TypeId} {parts : Array (Nat × Operand)} (hop : o.op = .build t parts) (hm : compOp P o.op = some m) (h : opSem own st m e H = some (v, H')) (hE : ERel ρ old w e a.tmps) (hH : HRel B ρ old w H) : Does P B own.d H ρ old w st a.eval o v H' := by
  simp only [hop, compOp] at hm
  split at hm <;> first | (cases hm; done) | skip
  rename_i zv hz
  split at hm <;> first | (cases hm; done) | skip
  rename_i zs hzs
  obtain ⟨z, hz1, hz2⟩ := tyZero_run hz w
  have hz0 : RelL ρ old w zs z.cells.toList := by rw [hz2]; exact absL_rel hzs
  have hR : ∀ x y, opd x = some y → RelV ρ old w (y.ev e) (a.eval x) := fun x y hx => opd_rel hE hx
  have fin : ∀ (ps : List (Nat × Nat × Opd)) (place : Nat → Option (Nat × Nat)), m = .build zs ps → PartsOk (fun y x => RelV ρ old w (y.ev e) (a.eval x)) place parts.toList ps →
      (∀ cells', Instr.fill place z.cells (parts.toList.map fun p => (p.1, a.eval p.2)) = some cells' → (execOp a.eval o).run P w = .ok (.value (.agg cells')) w) → Does P B own.d H ρ old w st a.eval o v H' := by
    intro ps place hm0 hok hrun
    subst hm0
    simp only [opSem] at h
    cases hf : fillParts zs (evParts e ps) with
    | none => simp [hf] at h
    | some r =>
      simp [hf] at h
      obtain ⟨rfl, rfl⟩ := h
      obtain ⟨cells', h1, h2⟩ := fill_run place _ _ _ _ _ hok hz0 hf
      exact Does.val hH (hrun _ h1) (by simp only [RelV]; exact ⟨_, rfl, h2⟩)
  split at hm <;> first | (cases hm; done) | skip
  · rename_i fs hu
    split at hm <;> first | (cases hm; done) | skip
    rename_i places hpl
    cases hp : structParts places parts.toList with
    | none => simp [hp] at hm
    | some ps =>
      simp [hp] at hm
      refine fin ps (fun i => places[i]?) hm.symm (structParts_ok _ hR hp) fun cells' hc => ?_
      have hpr := mapM_array fs (fun f => Prod.mk f.offset <$> sizeOf f.type : Field → Sem (Nat × Nat)) w (structPlaces_run hpl w)
      have hc' : Instr.fill (fun i => places[i]?) z.cells (List.map (fun x => (x.1, a.eval x.2)) parts.toList) = some cells' := hc
      simp [execOp, hop, Instr.build, hz1, run_underlying hu, hpr, hc']
  · rename_i n el hu
    split at hm <;> first | (cases hm; done) | skip
    rename_i zz hsz
    cases hp : arrParts zz parts.toList with
    | none => simp [hp] at hm
    | some ps =>
      simp [hp] at hm
      refine fin ps (fun i => some (i * zz, zz)) hm.symm (arrParts_ok _ hR hp) fun cells' hc => ?_
      have hs := tySize_run hsz w
      simp [execOp, hop, Instr.build, hz1, run_underlying hu, hs, hc]
end
end Go.Proofs.Ytnphdnokedhhkaa.Fw

set_option linter.unusedVariables false
set_option linter.unusedSimpArgs false
namespace Go.Proofs.Ytnphdnokedhhkaa.Fw
open Go Go.RowKit

section
variable {P : Program} {B : Nat} {ρ : Map} {old : List Nat → Prop} {w : World} {st : List Nat} {H H' : Heap} {own : Site} {e : Env} {a : Act} {o : Oper} {m : MOp} {v : AV}

/-! ### elements in a row, flat -/
def flat : List (List AV) → List AV
  | [] => []
  | e :: r => e ++ flat r
def allLen (z : Nat) (els : List (List AV)) : Prop := ∀ e ∈ els, e.length = z
theorem flat_at {z : Nat} : ∀ {els : List (List AV)} {i : Nat} {cs : List AV}, allLen z els → els[i]? = some cs → ∀ (j : Nat) (x : AV), cs[j]? = some x → (flat els)[i * z + j]? = some x
  | [], i, cs, _, h, _, _, _ => by simp at h
  | c :: r, 0, cs, hl, h, j, x, hx => by
    simp at h; subst h
    simp only [flat, Nat.zero_mul, Nat.zero_add]
    rw [List.getElem?_append_left (by exact (List.getElem?_eq_some_iff.1 hx).1)]
    exact hx
  | c :: r, i + 1, cs, hl, h, j, x, hx => by
    simp at h
    have h0 : c.length = z := hl c (by simp)
    have := flat_at (z := z) (fun e he => hl e (by simp [he])) h j x hx
    simp only [flat]
    rw [List.getElem?_append_right (by rw [h0, Nat.add_mul]; omega), h0, show (i + 1) * z + j - z = i * z + j by rw [Nat.add_mul]; omega]
    exact this
theorem clEls_at : ∀ {els : List (List AV)}, dryEls els = true → ∀ (i : Nat) (cs : List AV), els[i]? = some cs → dryL cs = true
  | [], _, i, cs, h => by simp at h
  | c :: r, hc, 0, cs, h => by
    simp only [dryEls, Bool.and_eq_true] at hc
    simp at h; subst h; exact hc.1
  | c :: r, hc, i + 1, cs, h => by
    simp only [dryEls, Bool.and_eq_true] at hc
    simp at h
    exact clEls_at hc.2 i cs h
/-- a row whose cells begin with these elements -/
theorem CellsRel.of_flat {blk : Blk} {c : Array Value} {ys : List Value} (hl : allLen blk.z blk.els) (h : RelL ρ old w (flat blk.els) ys) (hp : ∀ (j : Nat) (u : Value), ys[j]? = some u → c[j]? = some u) (hc : blk.leaf = true → dryEls blk.els = true) :
    CellsRel (RelV ρ old w) blk c := fun i cs hi => by
  refine ⟨hl cs (List.mem_of_getElem? hi), fun j x hx => ⟨fun hf => clL_at (clEls_at (hc hf) i cs hi) j x hx, ?_⟩⟩
  obtain ⟨u, hu, hr⟩ := relL_at h _ x (flat_at hl hi j x hx)
  exact ⟨u, hp _ _ hu, hr⟩

theorem absL_length : ∀ {vs : List Value} {as : List AV}, absL vs = some as → as.length = vs.length
  | [], as, h => by simp only [absL] at h; cases h; rfl
  | v :: r, as, h => by
    simp only [absL] at h
    split at h
    · rename_i x l h1 h2; cases h; simp [absL_length h2]
    · cases h
theorem leaf_cl {v : Value} {x : AV} (h : absV v = some x) (hl : leafV v = true) : x.dry = true := by
  unfold absV at h
  split at h <;> first | (cases h; done) | skip
  all_goals (cases h; first | rfl | (simp [leafV] at hl))
theorem leafL_cl : ∀ {vs : List Value} {as : List AV}, absL vs = some as → leafL vs = true → dryL as = true
  | [], as, h, _ => by simp only [absL] at h; cases h; rfl
  | v :: r, as, h, hl => by
    simp only [absL] at h
    simp only [leafL, Bool.and_eq_true] at hl
    split at h
    · rename_i x l h1 h2; cases h
      simp only [dryL, Bool.and_eq_true]
      exact ⟨leaf_cl h1 hl.1, leafL_cl h2 hl.2⟩
    · cases h

theorem does_alloc {t : TypeId} (hop : o.op = .alloc t) (hm : compOp P o.op = some m) (h : opSem own st m e H = some (v, H')) (hE : ERel ρ old w e a.tmps) (hH : HRel B ρ old w H) (hB : B ≤ w.heap.size) (hst : ¬ old st) : Does P B own.d H ρ old w st a.eval o v H' := by
  simp only [hop, compOp] at hm
  split at hm <;> first | (cases hm; done) | skip
  rename_i zv hz
  cases hzs : absL zv with
  | none => simp [hzs] at hm
  | some zs =>
    simp [hzs] at hm; subst hm
    obtain ⟨z, hz1, hz2⟩ := tyZero_run hz w
    simp only [opSem] at h
    cases h
    have hz0 : RelL ρ old w zs z.cells.toList := by rw [hz2]; exact absL_rel hzs
    refine Does.fresh (u := .pointer (some ⟨w.heap.size, 0, none⟩)) hH hB hst own ⟨st, [zs], zs.length, leafL zv⟩ rfl z.cells t (w1 := w) ⟨rfl, rfl, rfl, rfl⟩ ?_ ?_ ?_
    · simp [execOp, hop, Instr.alloc, hz1, newVar, newRow]
    · refine CellsRel.of_flat (ys := z.cells.toList) (by intro e he; simp at he; subst he; rfl) (by simpa [flat] using hz0) (fun j u hu => by simpa using hu) fun hf => ?_
      simp [dryEls, leafL_cl hzs hf]
    · intro ρ' old' w' h1 _ h2 _
      simp only [RelV]
      refine ⟨h2, _, rfl, fun b z hb => ?_⟩
      rw [h1] at hb; cases hb
      simp

theorem does_box {t : TypeId} {x : Operand} (hop : o.op = .box t x) (hm : compOp P o.op = some m) (h : opSem own st m e H = some (v, H')) (hE : ERel ρ old w e a.tmps) (hH : HRel B ρ old w H) (hB : B ≤ w.heap.size) (hst : ¬ old st) : Does P B own.d H ρ old w st a.eval o v H' := by
  simp only [hop, compOp] at hm
  split at hm <;> first | (cases hm; done) | skip
  rename_i zv n x' h1 h2 h3
  cases hm
  simp only [opSem] at h
  split at h
  · rename_i hc
    cases h
    obtain ⟨k1, k2, k3⟩ := cells_rel hc.2.1 (opd_rel hE h3)
    refine Does.fresh (u := .pointer (some ⟨w.heap.size, 0, none⟩)) hH hB hst own ⟨st, [cellsOf (x'.ev e)], n, leafL zv⟩ rfl (a.eval x).cells t (w1 := w) ⟨rfl, rfl, rfl, rfl⟩ ?_ ?_ ?_
    · simp [execOp, hop, Instr.box, newVar, newRow]
    · refine CellsRel.of_flat (ys := (a.eval x).cells.toList) (by intro e he; simp at he; subst he; exact hc.1) (by simpa [flat] using k1) (fun j u hu => by simpa using hu) fun hf => ?_
      simp [dryEls, hc.2.2 hf]
    · intro ρ' old' w' h1 _ h2 _
      simp only [RelV]
      refine ⟨h2, _, rfl, fun b z hb => ?_⟩
      rw [h1] at hb; cases hb
      simp
  · cases h

theorem put_at {c : List Value} {k : Nat} {us : List Value} (hk : k + us.length ≤ c.length) (j : Nat) :
    (c.take k ++ us ++ c.drop (k + us.length))[j]? = if j < k then c[j]? else if j < k + us.length then us[j - k]? else c[j]? := by
  have h1 : (c.take k).length = k := by simp; omega
  rw [List.append_assoc]
  by_cases a : j < k
  · rw [if_pos a, List.getElem?_append_left (by omega), List.getElem?_take, if_pos a]
  · rw [if_neg a, List.getElem?_append_right (by omega), h1]
    by_cases b : j < k + us.length
    · rw [if_pos b, List.getElem?_append_left (by omega)]
    · rw [if_neg b, List.getElem?_append_right (by omega), List.getElem?_drop]
      congr 1; omega
theorem putA_at {c : List AV} {k : Nat} {us : List AV} (hk : k + us.length ≤ c.length) (j : Nat) :
    (putCells c k us)[j]? = if j < k then c[j]? else if j < k + us.length then us[j - k]? else c[j]? := by
  unfold putCells
  have h1 : (c.take k).length = k := by simp; omega
  rw [List.append_assoc]
  by_cases a : j < k
  · rw [if_pos a, List.getElem?_append_left (by omega), List.getElem?_take, if_pos a]
  · rw [if_neg a, List.getElem?_append_right (by omega), h1]
    by_cases b : j < k + us.length
    · rw [if_pos b, List.getElem?_append_left (by omega)]
    · rw [if_neg b, List.getElem?_append_right (by omega), List.getElem?_drop]
      congr 1; omega
theorem putA_length {c : List AV} {k : Nat} {us : List AV} (hk : k + us.length ≤ c.length) : (putCells c k us).length = c.length := by
  unfold putCells; simp; omega

theorem does_store {t : TypeId} {x y : Operand} (hop : o.op = .store t x y) (hm : compOp P o.op = some m) (h : opSem own st m e H = some (v, H')) (hE : ERel ρ old w e a.tmps) (hH : HRel B ρ old w H) : Does P B own.d H ρ old w st a.eval o v H' := by
  simp only [hop, compOp] at hm
  split at hm <;> first | (cases hm; done) | skip
  rename_i n x' y' h1 h2 h3
  cases hm
  have hr := opd_rel hE h2
  simp only [opSem] at h
  split at h
  · rename_i s st' i off hv
    rw [hv] at hr
    split at h
    · cases h
    · rename_i blk hrow
      split at h
      · cases h
      · rename_i cs hi
        obtain ⟨b, hρ, hBb, hs, hg, c, ty, hb, hc⟩ := hH.at hrow hi
        split at h
        · rename_i hck
          obtain ⟨c1, c2, c3, c4⟩ := hck
          cases h
          obtain ⟨k1, k2, k3⟩ := cells_rel c3 (opd_rel hE h3)
          simp only [RelV] at hr
          obtain ⟨hold, p, hp, hq⟩ := hr
          obtain rfl := hq _ _ hρ
          obtain ⟨hcl, hcells⟩ := hc i cs hi
          have hsz := tySize_run h1 w
          have hus : (a.eval y).cells.size = n := by rw [← Array.length_toList, k3]; exact c1
          have hfit : i * blk.z + off + n ≤ c.size := by
            by_cases h0 : n = 0
            · subst h0
              by_cases h1 : off = 0
              · subst h1
                by_cases h2 : blk.z = 0
                · rw [h2]; simp
                · have h3 : cs.length - 1 < cs.length := by omega
                  obtain ⟨_, u, hu, _⟩ := hcells (cs.length - 1) cs[cs.length - 1] (by simp)
                  have := (Array.getElem?_eq_some_iff.1 hu).1
                  omega
              · have h3 : off - 1 < cs.length := by omega
                obtain ⟨_, u, hu, _⟩ := hcells (off - 1) cs[off - 1] (by simp [h3])
                have := (Array.getElem?_eq_some_iff.1 hu).1
                omega
            · have h3 : off + n - 1 < cs.length := by omega
              obtain ⟨_, u, hu, _⟩ := hcells (off + n - 1) cs[off + n - 1] (by simp [h3])
              have := (Array.getElem?_eq_some_iff.1 hu).1
              omega
          have hsc := run_storeCells_at P b (i * blk.z + off) ty (a.eval y).cells.toList 0 c w hb (by simp [hus]; omega) k2
          refine Does.write (r := .skip) (u := undef) hH s b st' ⟨blk.st, blk.els.set i (putCells cs off (cellsOf (y'.ev e))), blk.z, blk.leaf⟩ c (c.toList.take (i * blk.z + off) ++ (a.eval y).cells.toList ++ c.toList.drop (i * blk.z + off + (a.eval y).cells.toList.length)).toArray ty ⟨_, hg⟩ hρ hBb (hH.atv hrow hi) (.inl hs) hold hb ?_ (.inr ⟨rfl, rfl⟩) ?_ ?_ ?_
          · have hsc' : (storeCells ⟨b, i * blk.z + off, none⟩ (a.eval y).cells.toList).run P w = .ok () (w.setRow b (c.toList.take (i * blk.z + off) ++ (a.eval y).cells.toList ++ c.toList.drop (i * blk.z + off + (a.eval y).cells.toList.length)).toArray) := by
              have := hsc
              simpa only [Nat.add_zero] using this
            simp only [execOp, hop, hp, Instr.storeAt, Instr.sureAddr, storeVar, hsz, Sem.run_bind, Sem.run_pure, Result.andThen_ok, hus, ne_eq, not_true_eq_false, if_false, hsc']
          · intro i' e' hi'
            simp only at hi' ⊢
            rw [List.getElem?_set] at hi'
            have bound : i * blk.z + off + (a.eval y).cells.toList.length ≤ c.toList.length := by simp [hus]; omega
            split at hi'
            · rename_i hii
              subst hii
              split at hi'
              · cases hi'
                refine ⟨by rw [putA_length (by omega)]; exact hcl, fun j x hx => ?_⟩
                have hjlt : j < cs.length := by
                  have := (List.getElem?_eq_some_iff.1 hx).1
                  rwa [putA_length (by omega)] at this
                rw [putA_at (by omega)] at hx
                refine ⟨fun hf => ?_, ?_⟩
                · split at hx
                  · exact (hcells j x hx).1 hf
                  · split at hx
                    · exact clL_at (c4 hf) _ x hx
                    · exact (hcells j x hx).1 hf
                · have e0 : ((c.toList.take (i * blk.z + off) ++ (a.eval y).cells.toList ++ c.toList.drop (i * blk.z + off + (a.eval y).cells.toList.length)).toArray)[i * blk.z + j]? = (c.toList.take (i * blk.z + off) ++ (a.eval y).cells.toList ++ c.toList.drop (i * blk.z + off + (a.eval y).cells.toList.length))[i * blk.z + j]? := by simp
                  rw [e0, put_at bound]
                  by_cases q1 : j < off
                  · rw [if_pos q1] at hx
                    rw [if_pos (by omega)]
                    obtain ⟨_, u, hu, hr⟩ := hcells j x hx
                    exact ⟨u, by simpa using hu, hr⟩
                  · rw [if_neg q1] at hx
                    rw [if_neg (by omega)]
                    by_cases q2 : j < off + (cellsOf (y'.ev e)).length
                    · rw [if_pos q2] at hx
                      rw [if_pos (by rw [k3]; omega)]
                      obtain ⟨u, hu, hr⟩ := relL_at k1 _ x hx
                      exact ⟨u, by rw [show i * blk.z + j - (i * blk.z + off) = j - off by omega]; exact hu, hr⟩
                    · rw [if_neg q2] at hx
                      rw [if_neg (by rw [k3]; omega)]
                      obtain ⟨_, u, hu, hr⟩ := hcells j x hx
                      exact ⟨u, by simpa using hu, hr⟩
              · cases hi'
            · rename_i hii
              obtain ⟨hl', hc'⟩ := hc i' e' hi'
              refine ⟨hl', fun j x hx => ?_⟩
              obtain ⟨h5, u, hu, hr⟩ := hc' j x hx
              refine ⟨h5, u, ?_, hr⟩
              have hj : j < blk.z := by rw [← hl']; exact (List.getElem?_eq_some_iff.1 hx).1
              have e0 : ((c.toList.take (i * blk.z + off) ++ (a.eval y).cells.toList ++ c.toList.drop (i * blk.z + off + (a.eval y).cells.toList.length)).toArray)[i' * blk.z + j]? = (c.toList.take (i * blk.z + off) ++ (a.eval y).cells.toList ++ c.toList.drop (i * blk.z + off + (a.eval y).cells.toList.length))[i' * blk.z + j]? := by simp
              rw [e0, put_at bound]
              rcases Nat.lt_or_gt_of_ne hii with hlt | hgt
              · have : (i + 1) * blk.z ≤ i' * blk.z := Nat.mul_le_mul_right _ hlt
                rw [Nat.add_mul] at this
                rw [if_neg (by omega), if_neg (by rw [k3]; omega)]
                simpa using hu
              · have : (i' + 1) * blk.z ≤ i * blk.z := Nat.mul_le_mul_right _ hgt
                rw [Nat.add_mul] at this
                rw [if_pos (by omega)]
                simpa using hu
          · simp [hus]; omega
          · intro ρ' old' w' _ _ _ _ _
            simp only [RelV]
        · cases h
  · cases h
end
end Go.Proofs.Ytnphdnokedhhkaa.Fw

set_option linter.unusedVariables false
set_option linter.unusedSimpArgs false
namespace Go.Proofs.Ytnphdnokedhhkaa.Fw
open Go Go.RowKit

section
variable {P : Program} {B : Nat} {ρ : Map} {old : List Nat → Prop} {w : World} {st : List Nat} {H H' : Heap} {own : Site} {e : Env} {a : Act} {o : Oper} {m : MOp} {v : AV}

/-- a bound, if there is one -/
def BndIs (x : Option Value) (r dflt most : Nat) : Prop := (x = none ∧ r = dflt) ∨ (∃ ik, x = some (.int ik (r : Int)) ∧ r ≤ most)
theorem bnd_spec {x : Option Operand} {i : Option Opd} {dflt mo r : Nat} (hE : ERel ρ old w e a.tmps) (hx : opdO x = some i) (h : bnd (optEv e i) dflt mo = some r) : BndIs (x.map a.eval) r dflt mo := by
  cases x with
  | none => simp only [opdO] at hx; cases hx; simp only [optEv, bnd] at h; cases h; exact .inl ⟨rfl, rfl⟩
  | some y =>
    simp only [opdO] at hx
    cases hy : opd y with
    | none => simp [hy] at hx
    | some y' =>
      simp [hy] at hx; subst hx
      simp only [optEv] at h
      have hr := opd_rel hE hy
      unfold bnd at h
      split at h
      · rename_i heq; cases heq
      · rename_i ik k heq
        split at h
        · rename_i hk
          cases h
          simp at heq
          rw [heq] at hr
          refine .inr ⟨ik, by simp [rel_v hr, Int.toNat_of_nonneg hk.1], by omega⟩
        · cases h
      · cases h
theorem sliceBound_run {ik : IntKind} {r y : Nat} (code : BoundsCode) (h : r ≤ y) (w : World) : (Instr.sliceBound (.int ik (r : Int)) y code).run P w = .ok r w := by
  simp [Instr.sliceBound, asIntOf, h]
theorem sliceBounds_run {isS : Bool} {len cap l h mm : Nat} {lo hi mx : Option Value} (hm : BndIs mx mm cap cap) (hh : BndIs hi h len mm) (hl : BndIs lo l 0 h) (hno : mx.isSome = true → hi.isSome = true) (w : World) :
    (Instr.sliceBounds isS len cap lo hi mx).run P w = .ok (l, h, mm) w := by
  unfold Instr.sliceBounds
  rcases hm with ⟨rfl, rfl⟩ | ⟨k1, rfl, m1⟩ <;> rcases hh with ⟨rfl, rfl⟩ | ⟨k2, rfl, m2⟩ <;> rcases hl with ⟨rfl, rfl⟩ | ⟨k3, rfl, m3⟩ <;> simp_all [sliceBound_run]

theorem RelEls.drop {b z : Nat} : ∀ {o k : Nat} {els : List (List AV)}, RelEls ρ old w b o z els → RelEls ρ old w b (o + k * z) z (els.drop k)
  | o, 0, els, h => by simpa using h
  | o, k + 1, [], h => by simp only [List.drop_nil, RelEls]
  | o, k + 1, c :: r, h => by
    simp only [RelEls] at h
    have := RelEls.drop (k := k) h.2.2
    simpa [show o + (k + 1) * z = o + z + k * z by rw [Nat.add_mul]; omega] using this
theorem RelEls.take {b z : Nat} : ∀ {o k : Nat} {els : List (List AV)}, RelEls ρ old w b o z els → RelEls ρ old w b o z (els.take k)
  | o, 0, els, h => by simp only [List.take_zero, RelEls]
  | o, k + 1, [], h => by simp only [List.take_nil, RelEls]
  | o, k + 1, c :: r, h => by
    simp only [RelEls] at h
    simp only [List.take_succ_cons, RelEls]
    exact ⟨h.1, h.2.1, RelEls.take h.2.2⟩

theorem bnd_isSome {i : Option AV} {d mo r : Nat} (h : bnd i d mo = some r) : i.isSome = false → r = d := by
  intro hi
  cases i with
  | none => simp only [bnd] at h; cases h; rfl
  | some _ => simp at hi

theorem BndIs.weaken {x : Option Value} {r d d' mo mo' : Nat} (h : BndIs x r d mo) (hd : x = none → d' = r) (hm : mo ≤ mo') : BndIs x r d' mo' := by
  rcases h with ⟨h1, h2⟩ | ⟨k, h1, h2⟩
  · exact .inl ⟨h1, (hd h1).symm⟩
  · exact .inr ⟨k, h1, by omega⟩

theorem BndIs.le {x : Option Value} {r d mo : Nat} (h : BndIs x r d mo) (hd : d ≤ mo) : r ≤ mo := by
  rcases h with ⟨_, h2⟩ | ⟨k, _, h2⟩ <;> omega
theorem opdO_isSome {q : Option Operand} {q' : Option Opd} (hq : opdO q = some q') : q'.isSome = q.isSome := by
  cases q with
  | none => simp only [opdO] at hq; cases hq; rfl
  | some q =>
    simp only [opdO] at hq
    cases hy : opd q with
    | none => simp [hy] at hq
    | some y => simp [hy] at hq; subst hq; rfl
theorem optEv_isSome (e : Env) (q : Option Opd) : (optEv e q).isSome = q.isSome := by cases q <;> rfl

theorem does_slice {t : TypeId} {x : Operand} {lo hi mx : Option Operand} (hop : o.op = .slice t x lo hi mx) (hm : compOp P o.op = some m) (h : opSem own st m e H = some (v, H')) (hE : ERel ρ old w e a.tmps) (hH : HRel B ρ old w H) : Does P B own.d H ρ old w st a.eval o v H' := by
  simp only [hop, compOp] at hm
  split at hm <;> first | (cases hm; done) | skip
  · rename_i el x' lo' hi' mx' h1 h2 h3 h4 h5
    split at hm
    · cases hm
    rename_i hno
    cases hz : tySize P el with
    | none => simp [hz] at hm
    | some z =>
      simp [hz] at hm; subst hm
      have hs := tySize_run hz w
      have hr := opd_rel hE h2
      simp only [opSem] at h
      cases hq : sliceSem (some z) (x'.ev e) (optEv e lo') (optEv e hi') (optEv e mx') with
      | none => simp [hq] at h
      | some y =>
        simp [hq] at h
        obtain ⟨rfl, rfl⟩ := h
        have hno' : (mx.map a.eval).isSome = true → (hi.map a.eval).isSome = true := by
          intro hh
          have e1 := opdO_isSome h5
          have e2 := opdO_isSome h4
          simp only [Option.isSome_map] at hh ⊢
          rw [← e1] at hh
          rw [← e2]
          cases hi' <;> simp_all
        have run : ∀ (aa : Option Addr) (len cap l hh mm : Nat), a.eval x = .slice aa len cap → BndIs (mx.map a.eval) mm cap cap → BndIs (hi.map a.eval) hh len mm → BndIs (lo.map a.eval) l 0 hh →
            (execOp a.eval o).run P w = .ok (.value (.slice (if mm = l then aa else aa.map (·.add (l * z))) (hh - l) (mm - l))) w := by
          intro aa len cap l hh mm hx b1 b2 b3
          have hsb := sliceBounds_run (P := P) (isS := true) b1 b2 b3 hno' w
          simp [execOp, hop, hx, Instr.sliceAt, Instr.slice, run_underlying h1, hsb, hs]
        unfold sliceSem at hq
        split at hq
        · rename_i s st' z' off len full hv
          rw [hv] at hr
          split at hq <;> first | (cases hq; done) | skip
          rename_i hzz
          obtain rfl : z = z' := by simpa using hzz
          split at hq <;> first | (cases hq; done) | skip
          rename_i mm hmm
          split at hq <;> first | (cases hq; done) | skip
          rename_i hh hhh
          split at hq <;> first | (cases hq; done) | skip
          rename_i l hl
          cases hq
          have e1 := bnd_spec hE h5 hmm
          have e2 := bnd_spec hE h4 hhh
          have e3 := bnd_spec hE h3 hl
          simp only [RelV] at hr
          obtain ⟨ho, ⟨hvt, ⟨aa, hx⟩, h0⟩ | ⟨hvt, p, cap, hx, hlc, hfull, hp⟩⟩ := hr
          · subst h0
            have m0 : mm = 0 := by have := e1.le (Nat.le_refl _); omega
            subst m0
            have hh0 : hh = 0 := by
              have := e2.le (by split <;> omega)
              split at this <;> omega
            subst hh0
            have l0 : l = 0 := by have := e3.le (Nat.le_refl _); omega
            subst l0
            refine Does.val hH (run aa 0 0 0 0 0 hx e1 (by split at e2 <;> exact e2) e3) ?_
            simp only [RelV]
            exact ⟨ho, .inl ⟨hvt, ⟨aa, by simp⟩, by trivial⟩⟩
          have l1 : l ≤ hh := e3.le (Nat.zero_le _)
          have key : ∀ M : Nat, M ≤ cap → hh ≤ M → ((if (optEv e mx').isSome then decide (mm = hh) else full && decide (hh = len)) = true → M = hh) → BndIs (mx.map a.eval) M cap cap → BndIs (hi.map a.eval) hh len M →
              Does P B own.d H ρ old w st a.eval o (.slc s st' z (off + l) (hh - l) (if (optEv e mx').isSome then decide (mm = hh) else full && decide (hh = len))) H := by
            intro M hMc hhM hfl b1 b2
            refine Does.val hH (run (some p) len cap l hh M hx b1 b2 e3) ?_
            have ea : (if M = l then (some p : Option Addr) else (some p : Option Addr).map (·.add (l * z))) = some (if M = l then p else p.add (l * z)) := by split <;> rfl
            rw [ea]
            simp only [RelV]
            refine ⟨ho, .inr ⟨hvt, _, _, rfl, by omega, fun hf => by have := hfl hf; omega, fun b z' hb => ?_⟩⟩
            obtain ⟨q1, q2, ty, n, q3, q4⟩ := hp b z' hb
            refine ⟨q1, fun hpos => ?_, ty, n, q3, ?_⟩
            · rw [if_neg (by omega), q2 (by omega), add_at, Nat.add_mul]
            · rw [show off + l + (M - l) = off + M by omega]
              exact Nat.le_trans (Nat.mul_le_mul_right _ (by omega)) q4
          cases hmx : mx with
          | none =>
            have hs0 : (optEv e mx').isSome = false := by rw [optEv_isSome, opdO_isSome h5, hmx]; rfl
            rw [hs0] at e2
            have e2' : BndIs (hi.map a.eval) hh len len := by simpa using e2
            have l2 : hh ≤ len := e2'.le (Nat.le_refl _)
            refine key cap (Nat.le_refl _) (by omega) ?_ (by rw [hmx]; exact .inl ⟨rfl, rfl⟩) (e2'.weaken (fun hn => by rcases e2' with ⟨_, q⟩ | ⟨k, q, _⟩; exact q.symm; rw [hn] at q; cases q) hlc)
            rw [hs0]
            simp only [Bool.false_eq_true, if_false, Bool.and_eq_true, decide_eq_true_eq]
            rintro ⟨f1, f2⟩
            have := hfull f1; omega
          | some q =>
            have hs1 : (optEv e mx').isSome = true := by rw [optEv_isSome, opdO_isSome h5, hmx]; rfl
            rw [hs1] at e2
            simp only [if_true] at e2
            have l3 : mm ≤ len := e1.le (Nat.le_refl _)
            have l4 : hh ≤ mm := by
              rcases e2 with ⟨q1, _⟩ | ⟨k, _, q2⟩
              · have := hno' (by rw [hmx]; rfl)
                rw [q1] at this; cases this
              · exact q2
            refine key mm (by omega) l4 ?_ ?_ e2
            · rw [hs1]; simp
            · rcases e1 with ⟨q1, _⟩ | ⟨k, q1, q2⟩
              · rw [hmx] at q1; cases q1
              · exact .inr ⟨k, q1, by omega⟩
        · rename_i z' els hv
          rw [hv] at hr
          split at hq <;> first | (cases hq; done) | skip
          rename_i hzz
          obtain rfl : z = z' := by simpa using hzz
          split at hq <;> first | (cases hq; done) | skip
          rename_i mm hmm
          split at hq <;> first | (cases hq; done) | skip
          rename_i hh hhh
          split at hq <;> first | (cases hq; done) | skip
          rename_i l hl
          cases hq
          have e1 := bnd_spec hE h5 hmm
          have e2 := bnd_spec hE h4 hhh
          have e3 := bnd_spec hE h3 hl
          simp only [RelV] at hr
          rcases hr with ⟨h0, hx⟩ | ⟨p, cap, hx, hlc, hsp, hels⟩
          · subst h0
            simp only [List.length_nil] at e1 e2
            have m0 : mm = 0 := by have := e1.le (Nat.le_refl _); omega
            subst m0
            have hh0 : hh = 0 := by
              have := e2.le (by split <;> omega)
              split at this <;> omega
            subst hh0
            have l0 : l = 0 := by have := e3.le (Nat.le_refl _); omega
            subst l0
            refine Does.val hH (run none 0 0 0 0 0 hx e1 (by split at e2 <;> exact e2) e3) ?_
            simp only [RelV]
            exact .inl ⟨by simp, by simp⟩
          have l1 : l ≤ hh := e3.le (Nat.zero_le _)
          have key : ∀ M : Nat, M ≤ cap → hh ≤ M → hh ≤ els.length → BndIs (mx.map a.eval) M cap cap → BndIs (hi.map a.eval) hh els.length M →
              Does P B own.d H ρ old w st a.eval o (.lst z ((els.take hh).drop l)) H := by
            intro M hMc hhM hhl b1 b2
            refine Does.val hH (run (some p) els.length cap l hh M hx b1 b2 e3) ?_
            have ea : (if M = l then (some p : Option Addr) else (some p : Option Addr).map (·.add (l * z))) = some (if M = l then p else p.add (l * z)) := by split <;> rfl
            rw [ea]
            have elen : ((els.take hh).drop l).length = hh - l := by simp; omega
            simp only [RelV]
            rw [elen]
            by_cases hl0 : hh - l = 0
            · have en : (els.take hh).drop l = [] := List.eq_nil_of_length_eq_zero (by omega)
              rw [en]
              exact .inr ⟨_, _, rfl, by omega, fun hn => absurd rfl hn, by simp only [RelEls]⟩
            · have hne : els ≠ [] := by rintro rfl; simp at hhl; omega
              have hps : p = ⟨p.block, p.off, none⟩ := by have := hsp hne; cases p; simp_all
              refine .inr ⟨⟨p.block, p.off + l * z, none⟩, M - l, ?_, by omega, fun _ => rfl, (hels.take).drop⟩
              rw [if_neg (by omega)]
              conv => lhs; rw [hps, add_at]
          cases hmx : mx with
          | none =>
            have hs0 : (optEv e mx').isSome = false := by rw [optEv_isSome, opdO_isSome h5, hmx]; rfl
            rw [hs0] at e2
            have e2' : BndIs (hi.map a.eval) hh els.length els.length := by simpa using e2
            have l2 : hh ≤ els.length := e2'.le (Nat.le_refl _)
            exact key cap (Nat.le_refl _) (by omega) l2 (by rw [hmx]; exact .inl ⟨rfl, rfl⟩) (e2'.weaken (fun hn => by rcases e2' with ⟨_, q⟩ | ⟨k, q, _⟩; exact q.symm; rw [hn] at q; cases q) hlc)
          | some q =>
            have hs1 : (optEv e mx').isSome = true := by rw [optEv_isSome, opdO_isSome h5, hmx]; rfl
            rw [hs1] at e2
            simp only [if_true] at e2
            have l3 : mm ≤ els.length := e1.le (Nat.le_refl _)
            have l4 : hh ≤ mm := by
              rcases e2 with ⟨q1, _⟩ | ⟨k, _, q2⟩
              · have := hno' (by rw [hmx]; rfl)
                rw [q1] at this; cases this
              · exact q2
            refine key mm (by omega) l4 (by omega) ?_ e2
            rcases e1 with ⟨q1, _⟩ | ⟨k, q1, q2⟩
            · rw [hmx] at q1; cases q1
            · exact .inr ⟨k, q1, by omega⟩
        · rename_i hv
          rw [hv] at hr
          simp only [Option.isNone_some, Bool.false_eq_true, if_false] at hq
          split at hq <;> first | (cases hq; done) | skip
          rename_i mm hh l hmm hhh hl
          cases hq
          have e1 := bnd_spec hE h5 hmm
          have e2 := bnd_spec hE h4 hhh
          have e3 := bnd_spec hE h3 hl
          have m0 : mm = 0 := by have := e1.le (Nat.le_refl _); omega
          have h0 : hh = 0 := by have := e2.le (Nat.le_refl _); omega
          have l0 : l = 0 := by have := e3.le (Nat.le_refl _); omega
          subst m0; subst h0; subst l0
          have hx : a.eval x = .slice none 0 0 := by simpa only [RelV] using hr
          refine Does.val hH (run none 0 0 0 0 0 hx e1 e2 e3) ?_
          simp only [RelV]
          simp
        · simp at hq
        · cases hq
  · rename_i x' lo' hi' h1 h2 h3 h4 h5
    cases hm
    have hr := opd_rel hE h2
    simp only [opSem] at h
    cases hq : sliceSem none (x'.ev e) (optEv e lo') (optEv e hi') (optEv e none) with
    | none => simp [hq] at h
    | some y =>
      simp [hq] at h
      obtain ⟨rfl, rfl⟩ := h
      have hmx : mx = none := by
        cases mx with
        | none => rfl
        | some q =>
          simp only [opdO] at h5
          cases hy : opd q <;> simp [hy] at h5
      subst hmx
      unfold sliceSem at hq
      split at hq
      · simp at hq
      · simp at hq
      · simp at hq
      · rename_i s hv
        rw [hv] at hr
        have hx := rel_v hr
        simp only [Option.isSome_none, optEv, Bool.or_self, Bool.false_eq_true, if_false] at hq
        split at hq <;> first | (cases hq; done) | skip
        rename_i hh hhh
        split at hq <;> first | (cases hq; done) | skip
        rename_i l hl
        cases hq
        have e2 := bnd_spec hE h4 hhh
        have e3 := bnd_spec hE h3 hl
        have hsb := sliceBounds_run (P := P) (isS := false) (mm := s.size) (cap := s.size) (mx := none) (.inl ⟨rfl, rfl⟩) e2 e3 (by simp) w
        exact Does.val (u := .string (s.extract l hh)) hH (by simp [execOp, hop, hx, Instr.sliceAt, Instr.slice, run_underlying h1, hsb]) (rel_v_mk _)
      · cases hq
end
end Go.Proofs.Ytnphdnokedhhkaa.Fw

set_option linter.unusedVariables false
set_option linter.unusedSimpArgs false
namespace Go.Proofs.Ytnphdnokedhhkaa.Fw
open Go Go.RowKit

section
variable {P : Program} {B : Nat} {ρ : Map} {old : List Nat → Prop} {w : World} {st : List Nat} {H H' : Heap} {own : Site} {e : Env} {a : Act} {o : Oper} {m : MOp} {v : AV}

theorem flat_length {z : Nat} : ∀ {els : List (List AV)}, allLen z els → (flat els).length = els.length * z
  | [], _ => by simp [flat]
  | c :: r, h => by
    have h1 := h c (by simp)
    have h2 := flat_length (z := z) (els := r) fun e he => h e (by simp [he])
    simp only [flat, List.length_append, List.length_cons, h1, h2, Nat.add_mul]; omega
theorem flat_append : ∀ (a b : List (List AV)), flat (a ++ b) = flat a ++ flat b
  | [], b => by simp [flat]
  | c :: r, b => by simp [flat, flat_append r b]
theorem allLen_rep (z n : Nat) (zs : List AV) (h : zs.length = z) : allLen z (List.replicate n zs) := fun e he => by
  rw [List.mem_replicate] at he; rw [he.2]; exact h
theorem flat_set {z : Nat} : ∀ {els : List (List AV)} {i : Nat} {new : List AV}, allLen z els → i < els.length → new.length = z → flat (els.set i new) = putCells (flat els) (i * z) new
  | [], i, new, _, h, _ => by simp at h
  | c :: r, 0, new, hl, _, hn => by
    have h1 := hl c (by simp)
    simp only [List.set_cons_zero, flat, putCells, Nat.zero_mul, List.take_zero, List.nil_append, Nat.zero_add, hn]
    rw [List.drop_append, List.drop_eq_nil_of_le (by omega)]
    simp [h1]
  | c :: r, i + 1, new, hl, h, hn => by
    have h1 := hl c (by simp)
    simp at h
    have ih := flat_set (z := z) (els := r) (i := i) (new := new) (fun e he => hl e (by simp [he])) h hn
    simp only [List.set_cons_succ, flat, ih, putCells]
    have e1 : (i + 1) * z = c.length + i * z := by rw [Nat.add_mul, h1]; omega
    rw [e1, List.take_append, List.drop_append]
    rw [List.take_of_length_le (show c.length ≤ c.length + i * z by omega), show c.length + i * z - c.length = i * z by omega, List.drop_eq_nil_of_le (show c.length ≤ c.length + i * z + new.length by omega), show c.length + i * z + new.length - c.length = i * z + new.length by omega]
    simp
theorem setEls_fill {z : Nat} : ∀ (ps : List (Nat × Opd)) (els els' : List (List AV)), allLen z els → setEls z els (evPartsS e ps) = some els' →
    allLen z els' ∧ els'.length = els.length ∧ fillParts (flat els) (evParts e (ps.map fun p => (p.1 * z, z, p.2))) = some (flat els')
  | [], els, els', hl, h => by
    simp only [evPartsS, setEls] at h; cases h
    exact ⟨hl, rfl, by simp [evParts, fillParts]⟩
  | (i, x) :: ps, els, els', hl, h => by
    simp only [evPartsS, setEls] at h
    split at h
    · rename_i hc
      obtain ⟨c1, c2, c3⟩ := hc
      have hl' : allLen z (els.set i (cellsOf (x.ev e))) := fun q hq => by
        rcases List.mem_or_eq_of_mem_set hq with h | h
        · exact hl q h
        · rw [h]; exact c1
      obtain ⟨k1, k2, k3⟩ := setEls_fill ps _ _ hl' h
      refine ⟨k1, by simpa using k2, ?_⟩
      simp only [List.map_cons, evParts, fillParts]
      have c4 : i * z + z ≤ (flat els).length := by
        rw [flat_length hl, ← Nat.succ_mul]
        exact Nat.mul_le_mul_right _ c2
      rw [if_pos ⟨c1, c4, c3⟩, ← flat_set hl c2 c1]
      exact k3
    · cases h

theorem slParts_ok (R : Opd → Operand → Prop) (hR : ∀ x y, opd x = some y → R y x) {z : Nat} : ∀ {parts : List (Nat × Operand)} {ps : List (Nat × Opd)}, slParts parts = some ps → PartsOk R (fun i => some (i * z, z)) parts (ps.map fun p => (p.1 * z, z, p.2))
  | [], ps, h => by simp only [slParts] at h; cases h; simp [PartsOk]
  | (i, x) :: r, ps, h => by
    simp only [slParts] at h
    split at h
    · rename_i y l h1 h2
      cases h
      simp only [List.map_cons, PartsOk]
      exact ⟨⟨by simp, hR _ _ h1⟩, slParts_ok R hR h2⟩
    · cases h

theorem relL_of : ∀ {cs : List AV} {ys : List Value}, cs.length = ys.length → (∀ (j : Nat) (x : AV) (y : Value), cs[j]? = some x → ys[j]? = some y → RelV ρ old w x y) → RelL ρ old w cs ys
  | [], [], _, _ => by simp only [RelL]
  | c :: cs, y :: ys, hl, h => by
    simp only [RelL]
    exact ⟨h 0 c y rfl rfl, relL_of (by simpa using hl) fun j x y h1 h2 => h (j + 1) x y (by simpa using h1) (by simpa using h2)⟩
  | [], _ :: _, h, _ => by simp at h
  | _ :: _, [], h, _ => by simp at h
theorem flat_rep_at (zs : List AV) : ∀ (n k : Nat), k < n * zs.length → (flat (List.replicate n zs))[k]? = zs[k % zs.length]?
  | 0, k, h => by simp at h
  | n + 1, k, h => by
    have hz : 0 < zs.length := by rcases Nat.eq_zero_or_pos zs.length with h0 | h0; · rw [h0] at h; simp at h
                                  · exact h0
    simp only [List.replicate_succ, flat]
    by_cases hk : k < zs.length
    · rw [List.getElem?_append_left hk, Nat.mod_eq_of_lt hk]
    · have h2 : k - zs.length < n * zs.length := by rw [Nat.add_mul, Nat.one_mul] at h; omega
      have h3 : k % zs.length = (k - zs.length) % zs.length := Nat.mod_eq_sub_mod (by omega)
      rw [List.getElem?_append_right (by omega), flat_rep_at zs n (k - zs.length) h2, h3]
/-- the zero cells of 'n' elements -/
theorem zeros_rel {zs : List AV} {zc : Array Value} (hz : RelL ρ old w zs zc.toList) (n : Nat) : RelL ρ old w (flat (List.replicate n zs)) ((Array.range (n * zs.length)).map (zc[· % zc.size]!)).toList := by
  have hl : zc.size = zs.length := by rw [← Array.length_toList, relL_length hz]
  refine relL_of (by simp [flat_length (allLen_rep zs.length n zs rfl)]) fun j x y h1 h2 => ?_
  have hj : j < n * zs.length := by
    have := (List.getElem?_eq_some_iff.1 h1).1
    rwa [flat_length (allLen_rep zs.length n zs rfl), List.length_replicate] at this
  rw [flat_rep_at zs n j hj] at h1
  obtain ⟨u, hu, hr⟩ := relL_at hz _ x h1
  have hpos : 0 < zs.length := by rcases Nat.eq_zero_or_pos zs.length with h0 | h0; · rw [h0] at hj; simp at hj
                                  · exact h0
  have e1 : y = zc[j % zc.size]! := by
    simp [hj] at h2
    exact h2.symm
  have hlt : j % zc.size < zc.size := Nat.mod_lt _ (by omega)
  rw [← hl] at hu
  have e2 : zc[j % zc.size]! = u := by
    rw [getElem!_pos zc _ hlt]
    simpa [hlt] using hu
  rw [e1, e2]; exact hr

theorem does_mkslice {t : TypeId} {len : Nat} {parts : Array (Nat × Operand)} (hop : o.op = .buildSlice t len parts) (hm : compOp P o.op = some m) (h : opSem own st m e H = some (v, H')) (hE : ERel ρ old w e a.tmps) (hH : HRel B ρ old w H) (hB : B ≤ w.heap.size) (hst : ¬ old st) : Does P B own.d H ρ old w st a.eval o v H' := by
  simp only [hop, compOp] at hm
  split at hm <;> first | (cases hm; done) | skip
  rename_i el hu
  split at hm <;> first | (cases hm; done) | skip
  rename_i z zv ps h1 h2 h3
  split at hm <;> first | (cases hm; done) | skip
  rename_i zs hzs
  split at hm <;> first | (cases hm; done) | skip
  rename_i hc
  obtain ⟨c1, c2, c3⟩ := hc
  cases hm
  obtain ⟨zvv, hz1, hz2⟩ := tyZero_run h2 w
  have hsz := tySize_run h1 w
  have hz0 : RelL ρ old w zs zvv.cells.toList := by rw [hz2]; exact absL_rel hzs
  have hzl : zs.length = z := by rw [absL_length hzs]; exact c3
  have hzc : zvv.cells.size = z := by rw [← Array.length_toList, hz2]; exact c3
  simp only [opSem] at h
  split at h
  · cases h
  · rename_i els hels
    split at h
    · rename_i hleaf
      cases h
      obtain ⟨k1, k2, k3⟩ := setEls_fill ps _ _ (allLen_rep z len zs hzl) hels
      have hl : els.length = len := by simpa using k2
      have hrep := zeros_rel hz0 len
      rw [hzl] at hrep
      obtain ⟨cells', f1, f2⟩ := fill_run (a := a) (fun i => some (i * z, z)) _ _ _ ((Array.range (len * z)).map (zvv.cells[· % zvv.cells.size]!)) _ (slParts_ok _ (fun x y hx => opd_rel hE hx) h3) hrep k3
      have hcs : cells'.size = len * z := by rw [← Array.length_toList, relL_length f2, flat_length k1, hl]
      refine Does.fresh (u := .slice (some ⟨w.heap.size, 0, none⟩) len len) hH hB hst own ⟨st, els, z, leafL zv⟩ rfl cells' el (w1 := w) ⟨rfl, rfl, rfl, rfl⟩ ?_ ?_ ?_
      · have hps : (parts.map fun (p : Nat × Operand) => (p.1, a.eval p.2)).toList = parts.toList.map fun p => (p.1, a.eval p.2) := by simp
        have hrun : (Instr.buildSlice t len (parts.map fun (p : Nat × Operand) => (p.1, a.eval p.2))).run P w = .ok (.slice (some ⟨w.heap.size, 0, none⟩) len len) (w.alloc (.cells cells' el (0, 0))) := by
          unfold Instr.buildSlice
          simp only [Sem.run_bind, run_underlying hu, Result.andThen_ok, hsz]
          rw [if_neg (show ¬ (len * z > 2 ^ 24) by omega)]
          by_cases h0 : len * z = 0
          · have hcells : (Array.range (len * z)).map (fun x => (#[] : Array Value)[x % (#[] : Array Value).size]!) = (Array.range (len * z)).map (zvv.cells[· % zvv.cells.size]!) := by rw [h0]; simp
            simp only [pure_bind, h0, if_true]
            rw [h0] at hcells f1
            simp only [hcells, hps, f1]
            rfl
          · rw [if_neg h0]
            simp only [pure_bind, bind_assoc, Sem.run_bind, hz1, Result.andThen_ok, hps, f1]
            rfl
        simp only [execOp, hop, Sem.run_bind, hrun, Result.andThen_ok, Sem.run_pure]
      · exact CellsRel.of_flat k1 f2 (fun j u hu => by simpa using hu) hleaf
      · intro ρ' old' w' g1 gv g2 g3
        simp only [RelV]
        refine ⟨g2, .inr ⟨gv, _, len, rfl, Nat.le_refl _, fun _ => rfl, fun b z' hb => ?_⟩⟩
        rw [g1] at hb; cases hb
        exact ⟨rfl, fun _ => by simp, el, _, g3, by rw [hcs]; simp⟩
    · cases h

theorem wrap_i64 {n : Int} (h0 : 0 ≤ n) (h1 : n < 9223372036854775808) : IntKind.i64.wrap n = n := by
  exact IntWalk.i64_in n ⟨by omega, by omega⟩
end
end Go.Proofs.Ytnphdnokedhhkaa.Fw

set_option linter.unusedVariables false
set_option linter.unusedSimpArgs false
namespace Go.Proofs.Ytnphdnokedhhkaa.Fw
open Go Go.RowKit

section
variable {P : Program} {B : Nat} {ρ : Map} {old : List Nat → Prop} {w : World} {st : List Nat} {H H' : Heap} {own : Site} {e : Env} {a : Act} {o : Oper} {m : MOp} {v : AV}

theorem does_make {t : TypeId} {x y : Operand} (hop : o.op = .makeSlice t x y) (hm : compOp P o.op = some m) (h : opSem own st m e H = some (v, H')) (hE : ERel ρ old w e a.tmps) (hH : HRel B ρ old w H) (hB : B ≤ w.heap.size) (hst : ¬ old st) : Does P B own.d H ρ old w st a.eval o v H' := by
  simp only [hop, compOp] at hm
  split at hm <;> first | (cases hm; done) | skip
  rename_i el hu
  split at hm <;> first | (cases hm; done) | skip
  rename_i z by_ zv x' y' h1 h2 h3 h4 h5
  split at hm <;> first | (cases hm; done) | skip
  rename_i zs hzs
  split at hm <;> first | (cases hm; done) | skip
  rename_i hc
  obtain ⟨c1, c3⟩ := hc
  cases hm
  obtain ⟨zvv, hz1, hz2⟩ := tyZero_run h3 w
  have hsz := tySize_run h1 w
  obtain ⟨ti, hti, hby⟩ := tyBytes_run h2 w
  have hz0 : RelL ρ old w zs zvv.cells.toList := by rw [hz2]; exact absL_rel hzs
  have hzl : zs.length = z := by rw [absL_length hzs]; exact c3
  have hx := opd_rel hE h4
  have hy := opd_rel hE h5
  simp only [opSem] at h
  split at h <;> first | (cases h; done) | skip
  rename_i l c hl hcc
  rw [hl] at hx
  rw [hcc] at hy
  split at h
  · rename_i hb
    obtain ⟨b1, b2, b3, b4⟩ := hb
    cases h
    have hx := rel_v hx
    have hy := rel_v hy
    obtain ⟨ln, rfl⟩ := Int.eq_ofNat_of_zero_le b1
    obtain ⟨cn, rfl⟩ := Int.eq_ofNat_of_zero_le (Int.le_trans b1 b2)
    simp only [Int.toNat_natCast] at *
    unfold most at b3 b4
    have hrep := zeros_rel hz0 cn
    rw [hzl] at hrep
    have hrun : (Instr.makeSlice t (.int .i64 (ln : Int)) (.int .i64 (cn : Int))).run P w = .ok (.slice (some ⟨w.heap.size, 0, none⟩) ln cn) (w.alloc (.cells ((Array.range (cn * z)).map (zvv.cells[· % zvv.cells.size]!)) el (0, 0))) := by
      have wl : IntKind.i64.wrap (ln : Int) = ln := wrap_i64 (by omega) (by omega)
      have wc : IntKind.i64.wrap (cn : Int) = cn := wrap_i64 (by omega) (by omega)
      have ht : (typeInfo el).run P w = .ok ti w := by simp [typeInfo, hti]
      have hbig : ¬ ((ti.bytes : Int) * (cn : Int) > 2 ^ 48) := by
        rw [hby]
        have : ((by_ : Int) * (cn : Int)) = ((cn * by_ : Nat) : Int) := by rw [Nat.mul_comm]; simp
        rw [this]; omega
      unfold Instr.makeSlice
      simp only [Sem.run_bind, run_underlying hu, Result.andThen_ok, asInt, asIntOf, pure_bind, Sem.run_pure, ht, wl, wc]
      rw [if_neg (by
        intro hbad
        simp only [Bool.or_eq_true, decide_eq_true_eq] at hbad
        rcases hbad with ((q | q) | q) | q
        · omega
        · exact hbig q
        · omega
        · omega)]
      simp only [pure_bind, Sem.run_bind, run_askRoom, Result.andThen_ok, hsz, Int.toNat_natCast]
      by_cases h0 : cn * z = 0
      · simp only [h0, if_true, pure_bind, Sem.run_bind, newRow, run_newObj_alloc, Result.andThen_ok, Sem.run_pure]
        rw [show Array.range 0 = #[] from rfl, Array.map_empty, Array.map_empty]
      · rw [if_neg h0]
        simp only [pure_bind, bind_assoc, Sem.run_bind, hz1, newRow, run_newObj_alloc, Result.andThen_ok, Sem.run_pure]
    refine Does.fresh (u := .slice (some ⟨w.heap.size, 0, none⟩) ln cn) hH hB hst own ⟨st, List.replicate ln zs, z, leafL zv⟩ rfl ((Array.range (cn * z)).map (zvv.cells[· % zvv.cells.size]!)) el (w1 := w) ⟨rfl, rfl, rfl, rfl⟩ ?_ ?_ ?_
    · simp only [execOp, hop, Sem.run_bind, hx, hy, hrun, Result.andThen_ok, Sem.run_pure]
    · have big : CellsRel (RelV ρ old w) ⟨st, List.replicate cn zs, z, leafL zv⟩ ((Array.range (cn * z)).map (zvv.cells[· % zvv.cells.size]!)) := by
        refine CellsRel.of_flat (allLen_rep z cn zs hzl) hrep (fun j u hu => by rw [← Array.getElem?_toList]; exact hu) fun hf => ?_
        have : ∀ n, dryEls (List.replicate n zs) = true := by
          intro n
          induction n with
          | zero => rfl
          | succ n ih => simp [List.replicate_succ, dryEls, ih, leafL_cl hzs hf]
        exact this cn
      intro i cs hi
      have hi' : (List.replicate cn zs)[i]? = some cs := by
        simp only [List.getElem?_replicate] at hi ⊢
        split at hi
        · rw [if_pos (by omega)]; exact hi
        · cases hi
      exact big i cs hi'
    · intro ρ' old' w' g1 gv g2 g3
      simp only [RelV]
      refine ⟨g2, .inr ⟨gv, _, cn, rfl, by omega, fun hf => by simp at hf; omega, fun b z' hb => ?_⟩⟩
      rw [g1] at hb; cases hb
      exact ⟨rfl, fun _ => by simp, el, _, g3, by simp⟩
  · cases h

/-! ### what a slice reads -/
theorem RelCells.append_at {b : Nat} : ∀ {o : Nat} {xs ys : List AV}, CellsAt (RelV ρ old w) w b o xs → CellsAt (RelV ρ old w) w b (o + xs.length) ys → CellsAt (RelV ρ old w) w b o (xs ++ ys) := by
  intro o xs ys h1 h2 j v hv
  by_cases hj : j < xs.length
  · rw [List.getElem?_append_left hj] at hv; exact h1 j v hv
  · rw [List.getElem?_append_right (by omega)] at hv
    obtain ⟨u, q1, q2⟩ := h2 _ v hv
    exact ⟨u, by rw [show o + j = o + xs.length + (j - xs.length) by omega]; exact q1, q2⟩
theorem RelEls.flat_at {b z : Nat} : ∀ {o : Nat} {els : List (List AV)}, RelEls ρ old w b o z els → CellsAt (RelV ρ old w) w b o (flat els)
  | o, [], h => fun j v hv => by simp [flat] at hv
  | o, c :: r, h => by
    simp only [RelEls] at h
    simp only [flat]
    exact RelCells.append_at h.2.1.at (by rw [h.1]; exact RelEls.flat_at h.2.2)
theorem RelEls.allLen {b z : Nat} : ∀ {o : Nat} {els : List (List AV)}, RelEls ρ old w b o z els → allLen z els
  | o, [], h => fun e he => by simp at he
  | o, c :: r, h => by
    simp only [RelEls] at h
    intro e he
    rcases List.mem_cons.1 he with rfl | he
    · exact h.1
    · exact RelEls.allLen h.2.2 e he
theorem flat_row {b : Nat} {R : AV → Value → Prop} {z : Nat} : ∀ (els : List (List AV)) (k : Nat), (∀ i cs, els[i]? = some cs → cs.length = z ∧ CellsAt R w b ((k + i) * z) cs) → CellsAt R w b (k * z) (flat els)
  | [], k, _ => fun j v hv => by simp [flat] at hv
  | c :: r, k, h => by
    have h0 := h 0 c rfl
    have ih := flat_row r (k + 1) fun i cs hi => by
      have := h (i + 1) cs (by simpa using hi)
      rwa [show k + (i + 1) = k + 1 + i by omega] at this
    intro j v hv
    simp only [flat] at hv
    by_cases hj : j < c.length
    · rw [List.getElem?_append_left hj] at hv
      have := h0.2 j v hv
      simpa using this
    · rw [List.getElem?_append_right (by omega)] at hv
      obtain ⟨u, q1, q2⟩ := ih _ v hv
      exact ⟨u, by rw [show k * z + j = (k + 1) * z + (j - c.length) by rw [Nat.add_mul, h0.1]; omega]; exact q1, q2⟩
theorem lens_all {z : Nat} {l : List (List AV)} (h : lens z l = true) : allLen z l ∧ allCell (flat l) = true := by
  have app : ∀ (a b : List AV), allCell a = true → allCell b = true → allCell (a ++ b) = true := by
    intro a
    induction a with
    | nil => intro b _ h; simpa using h
    | cons c r ih =>
      intro b h1 h2
      simp only [allCell, Bool.and_eq_true] at h1
      simp only [List.cons_append, allCell, Bool.and_eq_true]
      exact ⟨h1.1, ih b h1.2 h2⟩
  induction l with
  | nil => exact ⟨fun e he => by simp at he, rfl⟩
  | cons c r ih =>
    simp only [lens, Bool.and_eq_true, decide_eq_true_eq] at h
    obtain ⟨h1, h2⟩ := ih h.2
    refine ⟨fun e he => ?_, app _ _ h.1.2 h2⟩
    rcases List.mem_cons.1 he with rfl | he
    · exact h.1.1
    · exact h1 e he
theorem src_rel2 {x : AV} {u : Value} {new : List (List AV)} {z : Nat} {tx el' : TypeId} (hk : P.underlying tx = some (.slice el')) (hH : HRel B ρ old w H) (hr : RelV ρ old w x u) (h : srcEls H x = some new) (hl : lens z new = true) :
    ∃ us, RelL ρ old w (flat new) us ∧ us.length = new.length * z ∧ Src P z tx u new.length us w ∧ ∀ k, k ≤ new.length → (Builtin.firstCells z k u).run P w = .ok (us.take (k * z)).toArray w := by
  obtain ⟨hal, hcell⟩ := lens_all hl
  have fin : ∀ (b oo cap : Nat), CellsAt (RelV ρ old w) w b oo (flat new) → u = .slice (some ⟨b, oo, none⟩) new.length cap → ∃ us, RelL ρ old w (flat new) us ∧ us.length = new.length * z ∧ Src P z tx u new.length us w ∧ ∀ k, k ≤ new.length → (Builtin.firstCells z k u).run P w = .ok (us.take (k * z)).toArray w := by
    intro b oo cap hc hu
    obtain ⟨us, l1, l2, l3⟩ := hc.values
    have l4 : us.length = new.length * z := by rw [l1, flat_length hal]
    refine ⟨us, l2, l4, ?_, fun k hkk => ?_⟩
    · rw [hu]
      exact Src.ofSlice w hk _ _ _ _ l4 (fun j y hy => by rw [add_at]; exact l3 j y hy) (cells_one hcell l2)
    · rw [hu]
      refine run_firstCells_some w z k ⟨b, oo, none⟩ _ cap (us.take (k * z)) ?_ fun j y hy => ?_
      · rw [List.length_take, l4]
        have := Nat.mul_le_mul_right z hkk
        omega
      · rw [add_at]
        rw [List.getElem?_take] at hy
        split at hy
        · exact l3 j y hy
        · cases hy
  have fin0 : ∀ (p : Option Addr) (cap : Nat), new = [] → u = .slice p 0 cap → ∃ us, RelL ρ old w (flat new) us ∧ us.length = new.length * z ∧ Src P z tx u new.length us w ∧ ∀ k, k ≤ new.length → (Builtin.firstCells z k u).run P w = .ok (us.take (k * z)).toArray w := by
    rintro p cap rfl hu
    refine ⟨[], by simp only [flat, RelL], by simp, ?_, fun k hkk => ?_⟩
    · rw [hu]
      cases p with
      | none => exact Src.ofNil w hk cap
      | some p => exact Src.ofSlice w hk p 0 cap [] (by simp) (by simp) (by simp)
    · have hk0 : k = 0 := by simpa using hkk
      subst hk0
      rw [hu]
      cases p with
      | none => simpa using run_firstCells_none w z 0 0 cap
      | some p => simpa using run_firstCells_some w z 0 p 0 cap [] (by simp) (by simp)
  unfold srcEls at h
  split at h <;> first | (cases h; done) | skip
  · cases h
    exact fin0 none 0 rfl (by simpa only [RelV] using hr)
  · rename_i z' els
    cases h
    simp only [RelV] at hr
    rcases hr with ⟨h0, hu⟩ | ⟨p, cap, hu, hlc, hsp, hels⟩
    · exact fin0 none 0 h0 hu
    cases hne : new with
    | nil => subst hne; exact (by simpa using fin0 (some p) cap rfl (by simpa using hu))
    | cons c r =>
      rw [← hne]
      have hz : z' = z := by
        have h1 := hels.allLen c (by rw [hne]; simp)
        have h2 := hal c (by rw [hne]; simp)
        omega
      subst hz
      have hps : p = ⟨p.block, p.off, none⟩ := by have := hsp (by rw [hne]; simp); cases p; simp_all
      exact fin p.block p.off cap hels.flat_at (by rw [hu]; rw [← hps])
  · rename_i s st' zz off len full
    split at h <;> first | (cases h; done) | skip
    rename_i blk hrow
    split at h <;> first | (cases h; done) | skip
    rename_i hle
    cases h
    simp only [RelV] at hr
    rcases hH.row hrow with ⟨hv1, he, _, _⟩ | ⟨hv1, b, hρ, hBb, hs, hg, c, ty, hb, hc⟩
    · obtain ⟨ho, ⟨_, ⟨aa, hu⟩, h0⟩ | ⟨hv2, _⟩⟩ := hr
      · subst h0
        exact fin0 aa 0 (by simp) hu
      · exact absurd hv1 hv2
    obtain ⟨ho, ⟨hv2, _⟩ | ⟨_, p, cap, hu, hlc, hfull, hp⟩⟩ := hr
    · exact absurd hv2 hv1
    obtain ⟨q1, q2, _⟩ := hp _ _ hρ
    subst q1
    have hnl : ((blk.els.drop off).take len).length = len := by simp; omega
    by_cases hl0 : len = 0
    · subst hl0
      exact (by simpa using fin0 (some p) cap (by simp) hu)
    · have hz : blk.z = z := by
        have hm : ((blk.els.drop off).take len)[0]? = some blk.els[off] := by
          simp [List.getElem?_take, List.getElem?_drop, show 0 < len by omega]
        have h1 := hal _ (List.mem_of_getElem? hm)
        have h2 := (hc off blk.els[off] (by simp)).1
        omega
      have hca : CellsAt (RelV ρ old w) w b (off * blk.z) (flat ((blk.els.drop off).take len)) := by
        refine flat_row _ off fun i cs hi => ?_
        rw [List.getElem?_take] at hi
        split at hi
        · rw [List.getElem?_drop] at hi
          exact ⟨(hc _ cs hi).1, hc.at hb hi⟩
        · cases hi
      refine fin b (off * blk.z) cap hca ?_
      rw [hnl, hu, q2 (by omega)]

theorem src_rel {x : AV} {u : Value} {new : List (List AV)} {z : Nat} {tx el' : TypeId} (hk : P.underlying tx = some (.slice el')) (hH : HRel B ρ old w H) (hr : RelV ρ old w x u) (h : srcEls H x = some new) (hl : lens z new = true) :
    ∃ us, RelL ρ old w (flat new) us ∧ us.length = new.length * z ∧ Src P z tx u new.length us w := by
  obtain ⟨us, a, b, c, _⟩ := src_rel2 hk hH hr h hl
  exact ⟨us, a, b, c⟩

theorem grow_le (need old : Nat) : ∀ (n c : Nat), c < need → 256 ≤ c → Builtin.growBy need n c ≤ 2 * need
  | 0, c, h, _ => by simp only [Builtin.growBy]; omega
  | n + 1, c, h, h2 => by
    simp only [Builtin.growBy]
    split
    · omega
    · by_cases hq : c + (c + 768) / 4 < need
      · exact grow_le need old n _ hq (by omega)
      · cases n with
        | zero => simp only [Builtin.growBy]; omega
        | succ n => simp only [Builtin.growBy]; rw [if_pos (by omega)]; omega
theorem next_le {need oldc : Nat} (h : oldc < need) : Builtin.nextslicecap need oldc ≤ 2 * need := by
  unfold Builtin.nextslicecap
  split
  · omega
  · split
    · omega
    · exact grow_le need oldc 4 oldc h (by omega)
theorem grow_le2 (need : Nat) : ∀ (n c : Nat), c < need → Builtin.growBy need n c ≤ need + need / 4 + 192
  | 0, c, h => by simp only [Builtin.growBy]; omega
  | n + 1, c, h => by
    simp only [Builtin.growBy]
    split
    · omega
    · by_cases hq : c + (c + 768) / 4 < need
      · exact grow_le2 need n _ hq
      · cases n with
        | zero => simp only [Builtin.growBy]; omega
        | succ n => simp only [Builtin.growBy]; rw [if_pos (by omega)]; omega
theorem next_le2 {need oldc : Nat} (h : oldc < need) (hn : 1000000 ≤ need) : 10 * Builtin.nextslicecap need oldc ≤ 13 * need := by
  have h2 : Builtin.nextslicecap need oldc ≤ need + need / 4 + 192 := by
    unfold Builtin.nextslicecap
    split
    · omega
    · split
      · omega
      · exact grow_le2 need 4 oldc h
  omega

end
end Go.Proofs.Ytnphdnokedhhkaa.Fw

set_option linter.unusedVariables false
set_option linter.unusedSimpArgs false
namespace Go.Proofs.Ytnphdnokedhhkaa.Fw
open Go Go.RowKit

section
variable {P : Program} {B : Nat} {ρ : Map} {old : List Nat → Prop} {w : World} {st : List Nat} {H H' : Heap} {own : Site} {e : Env} {a : Act} {o : Oper} {m : MOp} {v : AV}

theorem clEls_append : ∀ {xs ys : List (List AV)}, dryEls xs = true → dryEls ys = true → dryEls (xs ++ ys) = true
  | [], ys, _, h => by simpa using h
  | c :: r, ys, h1, h2 => by
    simp only [dryEls, Bool.and_eq_true] at h1
    simp only [List.cons_append, dryEls, Bool.and_eq_true]
    exact ⟨h1.1, clEls_append h1.2 h2⟩
theorem allLen_append {z : Nat} {xs ys : List (List AV)} (h1 : allLen z xs) (h2 : allLen z ys) : allLen z (xs ++ ys) := fun e he => by
  rcases List.mem_append.1 he with h | h
  · exact h1 e h
  · exact h2 e h
/-- a block, as one flat row -/
theorem CellsRel.flat_rel {blk : Blk} {c : Array Value} {R : AV → Value → Prop} (h : CellsRel R blk c) : allLen blk.z blk.els ∧ (blk.leaf = true → dryEls blk.els = true) := by
  refine ⟨fun e he => ?_, fun hf => ?_⟩
  · obtain ⟨i, hi⟩ := List.mem_iff_getElem?.1 he
    exact (h i e hi).1
  · have : ∀ (l : List (List AV)), (∀ (i : Nat) (cs : List AV), l[i]? = some cs → dryL cs = true) → dryEls l = true := by
      intro l
      induction l with
      | nil => intro _; rfl
      | cons c r ih =>
        intro hh
        simp only [dryEls, Bool.and_eq_true]
        exact ⟨hh 0 c rfl, ih fun i cs hi => hh (i + 1) cs (by simpa using hi)⟩
    exact this blk.els fun i cs hi => clL_of fun j v hv => (((h i cs hi).2 j v hv).1 hf)

theorem does_append {ts : Array TypeId} {xs : Array Operand} (hop : o.op = .call { callee := .builtin .append, args := xs, argTypes := ts }) (hm : compOp P o.op = some m) (h : opSem own st m e H = some (v, H')) (hE : ERel ρ old w e a.tmps) (hH : HRel B ρ old w H) (hB : B ≤ w.heap.size) (hst : ¬ old st) : Does P B own.d H ρ old w st a.eval o v H' := by
  simp only [hop, compOp] at hm
  split at hm <;> first | (cases hm; done) | skip
  rename_i os hos
  simp only [compBi] at hm
  split at hm <;> first | (cases hm; done) | skip
  rename_i t u so xo hts
  split at hm <;> first | (cases hm; done) | skip
  rename_i el el' hu hu2
  split at hm <;> first | (cases hm; done) | skip
  rename_i z by_ zv hsz hby hz
  split at hm <;> first | (cases hm; done) | skip
  rename_i hc
  obtain ⟨hz0, hb0, hzl⟩ := hc
  cases hm
  have hts' : ts = #[t, u] := Array.ext' (by simpa using hts)
  have hargs := opds_rel hE hos
  simp only [Opd.evs] at hargs
  obtain ⟨us, ux, hus, hs, hx⟩ := relL_two hargs
  have hxs' : xs.map a.eval = #[us, ux] := by
    have : (xs.map a.eval).toList = [us, ux] := by simpa using hus
    exact Array.ext' (by simpa using this)
  obtain ⟨ti, hti, htb⟩ := tyBytes_run hby w
  have hti_size : ti.size = z := by simp [tySize, hti] at hsz; exact hsz
  obtain ⟨zc, hzc1, hzc2⟩ : ∃ zc, ti.zero = some zc ∧ zc.cells.toList = zv := by
    unfold tyZero at hz
    simp only [hti] at hz
    cases hq : ti.zero with
    | none => simp [hq] at hz
    | some zc => simp [hq] at hz; exact ⟨zc, rfl, hz⟩
  have hrun : ∀ (r : Value) (w' : World), (Builtin.append_ #[t, u] o.type #[us, ux]).run P w = .ok r w' → (execOp a.eval o).run P w = .ok (.value r) w' := by
    intro r w' hh
    simp [execOp, hop, resolve, invoke, builtin, hxs', hts', hh]
  simp only [opSem] at h
  split at h
  · cases h
  rename_i new hnew
  split at h <;> first | (cases h; done) | skip
  rename_i hchk
  obtain ⟨hlens, hleafn⟩ := hchk
  obtain ⟨news, n1, n2, n3⟩ := src_rel (P := P) hu2 hH hx hnew hlens
  obtain ⟨nal, ncell⟩ := lens_all hlens
  -- where it grows
  have grow : ∀ (sg : Site) (base : Option Addr) (sLen sCap : Nat) (olds : List Value) (els : List (List AV)), us = .slice base sLen sCap → (Builtin.firstCells z sLen us).run P w.drew = .ok olds.toArray w.drew → RelL ρ old w (flat els) olds → allLen z els → els.length = sLen →
      sCap < sLen + new.length → roomOk (sLen + new.length) by_ → (leafL zv = true → dryEls els = true) →
      (¬ sg.d < own.d ∨ ∃ c, H.get sg = some c) → Does P B own.d H ρ old w st a.eval o (.slc sg st z 0 (sLen + new.length) false) (H.set sg ⟨st, els ++ new, z, leafL zv⟩) := by
    intro sg base sLen sCap olds els hus hold hrel hal hel hroom hmost hcl hin
    subst hus
    have hfit : Builtin.nextslicecap (sLen + new.length) sCap * ti.bytes ≤ 281474976710656 := by
      rw [htb]
      rcases hmost with hmost | ⟨hmil, hmost⟩
      · unfold most at hmost
        have hnl := next_le (need := sLen + new.length) (oldc := sCap) hroom
        have e1 : Builtin.nextslicecap (sLen + new.length) sCap * by_ ≤ 2 * (sLen + new.length) * by_ := Nat.mul_le_mul_right _ hnl
        have e2 : 2 * (sLen + new.length) * by_ = 2 * ((sLen + new.length) * by_) := by rw [Nat.mul_assoc]
        omega
      · have hnl := next_le2 (need := sLen + new.length) (oldc := sCap) hroom hmil
        have e1 : 10 * Builtin.nextslicecap (sLen + new.length) sCap * by_ ≤ 13 * (sLen + new.length) * by_ := Nat.mul_le_mul_right _ hnl
        have e2 : 13 * (sLen + new.length) * by_ = 13 * ((sLen + new.length) * by_) := by rw [Nat.mul_assoc]
        have e3 : 10 * Builtin.nextslicecap (sLen + new.length) sCap * by_ = 10 * (Builtin.nextslicecap (sLen + new.length) sCap * by_) := by rw [Nat.mul_assoc]
        omega
    have h63 : ((sLen + new.length : Nat) : Int) ≤ 9223372036854775807 := by
      have : (sLen + new.length) * 1 ≤ (sLen + new.length) * by_ := Nat.mul_le_mul_left _ hb0
      rcases hmost with hmost | ⟨hmil, hmost⟩
      · unfold most at hmost
        omega
      · omega
    have hg := run_append_grow_src w t u o.type el ti zc hu hti hzc1 base sLen sCap olds (by rw [hti_size]; exact hold) ux new.length news (by rw [hti_size]; exact n3) hroom h63 hfit
    have hgc : sLen + new.length ≤ grownCap w (sLen + new.length) sCap el := by
      unfold grownCap
      simp only [Question.cut]
      omega
    refine Does.fresh (hx := hin) (u := .slice (some ⟨w.heap.size, 0, none⟩) (sLen + new.length) (grownCap w (sLen + new.length) sCap el)) hH hB hst sg ⟨st, els ++ new, z, leafL zv⟩ rfl _ el (w1 := w.drew) ⟨rfl, rfl, rfl, rfl⟩ (hrun _ _ hg) ?_ ?_
    · refine CellsRel.of_flat (ys := olds ++ news) (allLen_append hal nal) (by rw [flat_append]; exact relL_append hrel n1) (fun j y hy => ?_) fun hf => clEls_append (hcl hf) (hleafn hf)
      have hj : j < (olds ++ news).toArray.size := by simpa using (List.getElem?_eq_some_iff.1 hy).1
      rw [Array.getElem?_append_left hj]
      simpa using hy
    · intro ρ' old' w' g1 gv g2 g3
      simp only [RelV]
      refine ⟨g2, .inr ⟨gv, _, _, rfl, hgc, fun hf => by simp at hf, fun b z' hb => ?_⟩⟩
      rw [g1] at hb; cases hb
      refine ⟨rfl, fun _ => by simp, el, _, g3, ?_⟩
      have l1 : olds.length = sLen * z := by rw [relL_length hrel, flat_length hal, hel]
      have l2 : zc.cells.size = z := by rw [← Array.length_toList, hzc2]; exact hzl
      simp only [Array.size_append, List.size_toArray, List.length_append, l1, n2, size_zeroCells, l2, Nat.zero_add]
      rw [← Nat.add_mul, ← Nat.add_mul]
      exact Nat.mul_le_mul_right _ (by omega)
  split at h <;> first | (cases h; done) | skip
  · rename_i hsv
    rw [hsv] at hs
    obtain rfl : us = .slice none 0 0 := by simpa only [RelV] using hs
    split at h
    · rename_i h0
      cases h
      have hnews0 : news = [] := List.eq_nil_of_length_eq_zero (by rw [n2, h0]; simp)
      refine Does.virt (a := none) hH hst own rfl (hrun _ _ ?_)
      rw [h0, hnews0] at n3
      simp [Builtin.append_, run_underlying hu, run_underlying hu2, sizeOf, typeInfo, hti, hti_size, n3.len, n3.cells]
    · split at h
      · rename_i h0 h1
        cases h
        have := grow own none 0 0 [] [] rfl (run_firstCells_none w.drew z 0 0 0) (by simp only [flat, RelL]) (fun e he => by simp at he) rfl (by omega) (by rw [Nat.zero_add]; exact h1) (fun _ => rfl) (.inl (by omega))
        simpa using this
      · cases h
  · rename_i s' st' z' off len full hsv
    rw [hsv] at hs
    have hs0 := hs
    simp only [RelV] at hs
    obtain ⟨ho, ⟨hv1, ⟨aa, hus0⟩, hlen0⟩ | ⟨hv1, p, cap, rfl, hlc, hfull, hp⟩⟩ := hs
    · subst hus0; subst hlen0
      have none0 : new.length = 0 → (Builtin.append_ #[t, u] o.type #[.slice aa 0 0, ux]).run P w = .ok (.slice aa 0 0) w := by
        intro h0
        have hnews0 : news = [] := List.eq_nil_of_length_eq_zero (by rw [n2, h0]; simp)
        rw [h0, hnews0] at n3
        cases aa with
        | none => simp [Builtin.append_, run_underlying hu, run_underlying hu2, sizeOf, typeInfo, hti, hti_size, n3.len, n3.cells]
        | some p => simp [Builtin.append_, run_underlying hu, run_underlying hu2, sizeOf, typeInfo, hti, hti_size, n3.len, n3.cells, storeCells]
      have first0 : (Builtin.firstCells z 0 (.slice aa 0 0)).run P w.drew = .ok ([] : List Value).toArray w.drew := by
        cases aa with
        | none => exact run_firstCells_none w.drew z 0 0 0
        | some p => exact run_firstCells_some w.drew z 0 p 0 0 [] (by simp) (by simp)
      split at h
      · rename_i h0
        split at h
        · cases h
          exact Does.virt (a := aa) hH hst own rfl (hrun _ _ (none0 h0))
        · cases h
          exact Does.val (u := .slice aa 0 0) hH (hrun _ _ (none0 h0)) hs0
      · rename_i hn0
        split at h
        · cases h
        rename_i blk hrow
        split at h <;> first | (cases h; done) | skip
        rename_i hck
        obtain ⟨c1, c2, ⟨_, c3⟩, c4⟩ := hck
        rcases hH.row hrow with ⟨_, he, _, hg⟩ | ⟨hv2, _⟩
        · have gr := fun (sg : Site) (hin : ¬ sg.d < own.d ∨ ∃ c, H.get sg = some c) => grow sg aa 0 0 [] [] rfl first0 (by simp only [flat, RelL]) (fun e he => by simp at he) rfl (by omega) (by rw [Nat.zero_add]; exact c3 rfl) (fun _ => rfl) hin
          split at h
          · cases h
            have := gr own (.inl (by omega))
            simpa [he] using this
          · split at h
            · cases h
              have := gr s' (.inr ⟨_, hg⟩)
              simpa [he] using this
            · cases h
        · exact absurd hv1 hv2
    split at h
    · rename_i h0
      have hnews0 : news = [] := List.eq_nil_of_length_eq_zero (by rw [n2, h0]; simp)
      rw [h0, hnews0] at n3
      have run0 : (Builtin.append_ #[t, u] o.type #[.slice (some p) len cap, ux]).run P w = .ok (.slice (some p) len cap) w := by
        simp [Builtin.append_, run_underlying hu, run_underlying hu2, sizeOf, typeInfo, hti, hti_size, n3.len, n3.cells, hlc, storeCells]
      split at h
      · rename_i hfl
        cases h
        have hc0 : cap = 0 := by have := hfull hfl.1; omega
        have hl0 := hfl.2
        subst hc0; subst hl0
        exact Does.virt (a := some p) hH hst own rfl (hrun _ _ run0)
      · cases h
        exact Does.val (u := .slice (some p) len cap) hH (hrun _ _ run0) hs0
    · rename_i hn0
      split at h
      · cases h
      rename_i blk hrow
      rcases hH.row hrow with ⟨hv2, _⟩ | ⟨_, b, hρ, hBb, hst', hg, c, ty, hb, hcr⟩
      · exact absurd hv2 hv1
      obtain ⟨q1, q2, ty', nn, q3, q4⟩ := hp _ _ hρ
      split at h <;> first | (cases h; done) | skip
      rename_i hck
      obtain ⟨c1, c2, ⟨c3, _⟩, c4⟩ := hck
      subst q1
      obtain ⟨bal, bcl⟩ := hcr.flat_rel
      have hels : CellsAt (RelV ρ old w) w b (off * blk.z) (flat ((blk.els.drop off).take len)) := by
        refine flat_row _ off fun i cs hi => ?_
        rw [List.getElem?_take] at hi
        split at hi
        · rw [List.getElem?_drop] at hi
          exact ⟨(hcr _ cs hi).1, hcr.at hb hi⟩
        · cases hi
      have hal : allLen blk.z ((blk.els.drop off).take len) := fun e he => bal e (List.mem_of_mem_drop (List.mem_of_mem_take he))
      have hnl : ((blk.els.drop off).take len).length = len := by simp; omega
      have hclt : leafL zv = true → dryEls ((blk.els.drop off).take len) = true := by
        intro hf
        rw [← c2] at hf
        have hb := bcl hf
        have : ∀ (l : List (List AV)) (k n : Nat), dryEls l = true → dryEls ((l.drop k).take n) = true := by
          intro l
          induction l with
          | nil => intro k n _; simp [dryEls]
          | cons c r ih =>
            intro k n hh
            simp only [dryEls, Bool.and_eq_true] at hh
            cases k with
            | zero =>
              cases n with
              | zero => simp [dryEls]
              | succ n => simp only [List.drop_zero, List.take_succ_cons, dryEls, Bool.and_eq_true]; exact ⟨hh.1, by simpa using ih 0 n hh.2⟩
            | succ k => simpa using ih k n hh.2
        exact this _ _ _ hb
      obtain ⟨olds, o1, o2, o3⟩ := hels.values
      have hold : (Builtin.firstCells z len (.slice (some p) len cap)).run P w.drew = .ok olds.toArray w.drew := by
        have hl : olds.length = len * z := by rw [o1, flat_length hal, hnl, c1]
        by_cases hl0 : len = 0
        · subst hl0
          have : olds = [] := List.eq_nil_of_length_eq_zero (by rw [hl]; simp)
          subst this
          exact run_firstCells_some w.drew z 0 p 0 cap [] (by simp) (by simp)
        · rw [q2 (by omega)]
          exact run_firstCells_some w.drew z len ⟨b, off * blk.z, none⟩ len cap olds hl (fun j y hy => by rw [add_at]; simpa using o3 j y hy)
      split at h
      · rename_i hf
        cases h
        have hcap := hfull hf
        exact grow own (some p) len cap olds _ rfl hold o2 (by rw [← c1]; exact hal) hnl (by omega) c3 hclt (.inl (by omega))
      · split at h
        · rename_i hf hend
          obtain ⟨e1, e2⟩ := hend
          subst e1
          cases h
          have hd : (blk.els.drop 0).take len = blk.els := by rw [e2]; simp
          rw [hd] at o1 o2 hal hclt hnl
          have halz : allLen z blk.els := by rw [← c1]; exact hal
          by_cases hroom : len + new.length ≤ cap
          · obtain rfl := q2 (by omega)
            have hsh : w.shape? b = some (ty, c.size) := by unfold World.shape?; rw [hb]
            rw [hsh] at q3
            obtain ⟨rfl, rfl⟩ : ty = ty' ∧ c.size = nn := by simpa using q3
            have hfit : len * blk.z + news.length ≤ c.size := by
              rw [n2, ← c1, ← Nat.add_mul]
              exact Nat.le_trans (Nat.mul_le_mul_right _ hroom) (by simpa using q4)
            have hstc := run_storeCells_at P b (len * blk.z) ty news 0 c w hb (by simpa using hfit) n3.one
            simp only [Nat.add_zero] at hstc
            have hap : (Builtin.append_ #[t, u] o.type #[.slice (some ⟨b, 0 * blk.z, none⟩) len cap, ux]).run P w = .ok (.slice (some ⟨b, 0 * blk.z, none⟩) (len + new.length) cap) (w.setRow b (c.toList.take (len * blk.z) ++ news ++ c.toList.drop (len * blk.z + news.length)).toArray) := by
              have hcells := n3.cells
              rw [← c1] at hcells
              simp [Builtin.append_, run_underlying hu, run_underlying hu2, sizeOf, typeInfo, hti, hti_size, ← c1, n3.len, hroom, hcells, add_at, hstc]
            have hol : olds.length = len * blk.z := by rw [o1, flat_length hal, hnl]
            refine Does.write (r := .value (.slice (some ⟨b, 0 * blk.z, none⟩) (len + new.length) cap)) (u := .slice (some ⟨b, 0 * blk.z, none⟩) (len + new.length) cap) hH s' b st' ⟨st, blk.els ++ new, z, leafL zv⟩ c _ ty ⟨_, hg⟩ (by rw [← c1]; exact hρ) hBb hv1 (.inr ⟨rfl, hst⟩) ho hb (hrun _ _ hap) (.inl rfl) ?_ ?_ ?_
            · refine CellsRel.of_flat (ys := olds ++ news) (allLen_append halz nal) (by rw [flat_append]; exact relL_append o2 n1) (fun j y hy => ?_) fun hf => clEls_append (hclt hf) (hleafn hf)
              have e0 : ((c.toList.take (len * blk.z) ++ news ++ c.toList.drop (len * blk.z + news.length)).toArray)[j]? = (c.toList.take (len * blk.z) ++ news ++ c.toList.drop (len * blk.z + news.length))[j]? := by simp
              rw [e0, put_at (by simpa using hfit)]
              by_cases hj : j < len * blk.z
              · rw [List.getElem?_append_left (by omega)] at hy
                rw [if_pos hj]
                have := o3 j y hy
                simp [World.cell?, hb] at this
                simpa using this
              · rw [List.getElem?_append_right (by omega), hol] at hy
                rw [if_neg hj, if_pos (by have := (List.getElem?_eq_some_iff.1 hy).1; omega)]
                exact hy
            · simp; omega
            · intro ρ' old' w' _ g1 gv g2 g3
              simp only [RelV]
              refine ⟨g2, .inr ⟨gv, _, cap, rfl, hroom, fun hf => by simp at hf, fun b' z' hb' => ?_⟩⟩
              rw [g1] at hb'; cases hb'
              refine ⟨rfl, fun _ => by simp, ty, _, g3, ?_⟩
              simp only [List.size_toArray, List.length_append, List.length_take, List.length_drop, Array.length_toList]
              rw [← c1]
              simp only [Nat.zero_add] at q4 ⊢
              omega
          · exact grow s' (some p) len cap olds _ rfl hold o2 halz (by omega) (by omega) c3 hclt (.inr ⟨_, hg⟩)
        · cases h
theorem dryEls_part {l : List (List AV)} (h : dryEls l = true) (k n : Nat) : dryEls ((l.drop k).take n) = true := by
  induction l generalizing k n with
  | nil => simp [dryEls]
  | cons c r ih =>
    simp only [dryEls, Bool.and_eq_true] at h
    cases k with
    | zero =>
      cases n with
      | zero => simp [dryEls]
      | succ n => simp only [List.drop_zero, List.take_succ_cons, dryEls, Bool.and_eq_true]; exact ⟨h.1, by simpa using ih h.2 0 n⟩
    | succ k => simpa using ih h.2 k n
theorem flat_take {z : Nat} : ∀ {l : List (List AV)} (n : Nat), allLen z l → flat (l.take n) = (flat l).take (n * z)
  | [], n, _ => by simp [flat]
  | c :: r, 0, _ => by simp [flat]
  | c :: r, n + 1, h => by
    have h1 := h c (by simp)
    have h2 := flat_take (l := r) n fun e he => h e (by simp [he])
    simp only [List.take_succ_cons, flat, h2]
    rw [show (n + 1) * z = c.length + n * z by rw [h1, Nat.add_mul]; omega, List.take_length_add_append]
theorem does_copy {ts : Array TypeId} {xs : Array Operand} (hop : o.op = .call { callee := .builtin .copy, args := xs, argTypes := ts }) (hm : compOp P o.op = some m) (h : opSem own st m e H = some (v, H')) (hE : ERel ρ old w e a.tmps) (hH : HRel B ρ old w H) (hB : B ≤ w.heap.size) (hst : ¬ old st) : Does P B own.d H ρ old w st a.eval o v H' := by
  simp only [hop, compOp] at hm
  split at hm <;> first | (cases hm; done) | skip
  rename_i os hos
  simp only [compBi] at hm
  split at hm <;> first | (cases hm; done) | skip
  rename_i t u so xo hts
  split at hm <;> first | (cases hm; done) | skip
  rename_i el el' hu hu2
  split at hm <;> first | (cases hm; done) | skip
  rename_i z hsz
  split at hm <;> first | (cases hm; done) | skip
  rename_i hz0
  cases hm
  have hts' : ts = #[t, u] := Array.ext' (by simpa using hts)
  have hargs := opds_rel hE hos
  simp only [Opd.evs] at hargs
  obtain ⟨us, ux, hus, hs, hx⟩ := relL_two hargs
  have hxs' : xs.map a.eval = #[us, ux] := by
    have : (xs.map a.eval).toList = [us, ux] := by simpa using hus
    exact Array.ext' (by simpa using this)
  obtain ⟨ti, hti, hti_size⟩ : ∃ ti, P.info? el = some ti ∧ ti.size = z := by
    unfold tySize at hsz
    cases hq : P.info? el with
    | none => simp [hq] at hsz
    | some ti => simp [hq] at hsz; exact ⟨ti, rfl, hsz⟩
  simp only [opSem] at h
  split at h
  · cases h
  rename_i new hnew
  split at h <;> first | (cases h; done) | skip
  rename_i s' st' z' off len full hsv
  split at h
  · cases h
  rename_i blk hrow
  split at h <;> first | (cases h; done) | skip
  rename_i hck
  obtain ⟨c0, c1, hlens, hleafn, c4⟩ := hck
  cases h
  obtain ⟨news, n1, n2, n3, n4⟩ := src_rel2 (P := P) hu2 hH hx hnew hlens
  obtain ⟨nal, ncell⟩ := lens_all hlens
  generalize hn : min new.length len = n at c0 ⊢
  have hn1 : n ≤ new.length := by omega
  have hn2 : n ≤ len := by omega
  rw [hsv] at hs
  simp only [RelV] at hs
  obtain ⟨ho, ⟨hv1, ⟨aa, hus0⟩, hlen0⟩ | ⟨hv1, p, cap, rfl, hlc, hfull, hp⟩⟩ := hs
  · omega
  rcases hH.row hrow with ⟨hv2, _⟩ | ⟨_, b, hρ, hBb, hst', hg, c, ty, hb, hcr⟩
  · exact absurd hv2 hv1
  obtain ⟨q1, q2, ty', nn, q3, q4⟩ := hp _ _ hρ
  subst q1
  obtain rfl := q2 (by omega)
  obtain ⟨bal, bcl⟩ := hcr.flat_rel
  have hsh : w.shape? b = some (ty, c.size) := by unfold World.shape?; rw [hb]
  rw [hsh] at q3
  obtain ⟨rfl, rfl⟩ : ty = ty' ∧ c.size = nn := by simpa using q3
  have hnl : (news.take (n * z)).length = n * z := by
    rw [List.length_take, n2]
    have := Nat.mul_le_mul_right z hn1
    omega
  have hfit : off * blk.z + (news.take (n * z)).length ≤ c.size := by
    rw [hnl, ← c1, ← Nat.add_mul]
    exact Nat.le_trans (Nat.mul_le_mul_right _ (by omega)) q4
  have h1 : ∀ v ∈ news.take (n * z), v.oneCell' = true := fun v hv => n3.one v (List.mem_of_mem_take hv)
  have hstc := run_storeCells_at P b (off * blk.z) ty (news.take (n * z)) 0 c w hb (by simpa using hfit) h1
  simp only [Nat.add_zero] at hstc
  have hcp : (Builtin.copy_ #[t, u] o.type #[.slice (some ⟨b, off * blk.z, none⟩) len cap, ux]).run P w = .ok (.int .i64 n) (w.setRow b (c.toList.take (off * blk.z) ++ news.take (n * z) ++ c.toList.drop (off * blk.z + (news.take (n * z)).length)).toArray) := by
    have hcells := n4 n hn1
    have hmin : Nat.min new.length len = n := hn
    simp [Builtin.copy_, run_underlying hu, sizeOf, typeInfo, hti, hti_size, n3.len, hmin, hcells, hstc, goInt]
  have hrun : (execOp a.eval o).run P w = .ok (.value (.int .i64 n)) (w.setRow b (c.toList.take (off * blk.z) ++ news.take (n * z) ++ c.toList.drop (off * blk.z + (news.take (n * z)).length)).toArray) := by
    simp [execOp, hop, resolve, invoke, builtin, hxs', hts', hcp]
  have pre : CellsAt (RelV ρ old w) w b (0 * blk.z) (flat (blk.els.take off)) := by
    refine flat_row _ 0 fun i cs hi => ?_
    rw [List.getElem?_take] at hi
    split at hi
    · exact ⟨(hcr _ cs hi).1, by simpa using hcr.at hb hi⟩
    · cases hi
  have post : CellsAt (RelV ρ old w) w b ((off + n) * blk.z) (flat (blk.els.drop (off + n))) := by
    refine flat_row _ (off + n) fun i cs hi => ?_
    rw [List.getElem?_drop] at hi
    exact ⟨(hcr _ cs hi).1, hcr.at hb hi⟩
  have al1 : allLen blk.z (blk.els.take off) := fun e he => bal e (List.mem_of_mem_take he)
  have al3 : allLen blk.z (blk.els.drop (off + n)) := fun e he => bal e (List.mem_of_mem_drop he)
  have al2 : allLen blk.z (new.take n) := fun e he => by rw [c1]; exact nal e (List.mem_of_mem_take he)
  obtain ⟨o1, p1, p2, p3⟩ := pre.values
  obtain ⟨o3, r1, r2, r3⟩ := post.values
  have ol1 : o1.length = off * blk.z := by rw [p1, flat_length al1]; congr 1; simp; omega
  have ol3 : o3.length = (blk.els.length - (off + n)) * blk.z := by rw [r1, flat_length al3]; congr 1; simp
  have mid : RelL ρ old w (flat (new.take n)) (news.take (n * z)) := by
    rw [flat_take n nal]
    exact relL_take _ n1
  refine Does.write (r := .value (.int .i64 n)) (u := .int .i64 n) hH s' b blk.st ⟨blk.st, blk.els.take off ++ new.take n ++ blk.els.drop (off + n), blk.z, blk.leaf⟩ c _ ty ⟨_, hg⟩ (by rw [hst']; exact hρ) hBb (by rw [hst']; exact hv1) (.inl rfl) (by rw [hst']; exact ho) hb hrun (.inl rfl) ?_ ?_ ?_
  · refine CellsRel.of_flat (ys := o1 ++ news.take (n * z) ++ o3) (allLen_append (allLen_append al1 al2) al3) (by rw [flat_append, flat_append]; exact relL_append (relL_append p2 mid) r2) (fun j y hy => ?_) fun hf => clEls_append (clEls_append (by simpa using dryEls_part (bcl hf) 0 off) (by simpa using dryEls_part (hleafn hf) 0 n)) (by
      have := dryEls_part (bcl hf) (off + n) (blk.els.drop (off + n)).length
      rwa [List.take_length] at this)
    have e0 : ((c.toList.take (off * blk.z) ++ news.take (n * z) ++ c.toList.drop (off * blk.z + (news.take (n * z)).length)).toArray)[j]? = (c.toList.take (off * blk.z) ++ news.take (n * z) ++ c.toList.drop (off * blk.z + (news.take (n * z)).length))[j]? := by simp
    rw [e0, put_at (by simpa using hfit)]
    by_cases hj : j < off * blk.z
    · rw [List.append_assoc, List.getElem?_append_left (by omega)] at hy
      rw [if_pos hj]
      have := p3 j y hy
      simp [World.cell?, hb] at this
      simpa using this
    · rw [if_neg hj]
      rw [List.append_assoc, List.getElem?_append_right (by omega), ol1] at hy
      by_cases hj2 : j - off * blk.z < (news.take (n * z)).length
      · rw [List.getElem?_append_left hj2] at hy
        rw [if_pos (by omega)]
        exact hy
      · rw [List.getElem?_append_right (by omega)] at hy
        rw [if_neg (by omega)]
        have := r3 _ y hy
        rw [show (off + n) * blk.z + (j - off * blk.z - (news.take (n * z)).length) = j by rw [hnl, Nat.add_mul, c1] at *; omega] at this
        simp [World.cell?, hb] at this
        simpa using this
  · simp
    simp only [hnl] at hfit
    omega
  · intro ρ' old' w' _ g1 gv g2 g3
    simp only [RelV]
    congr 1
    omega
end
end Go.Proofs.Ytnphdnokedhhkaa.Fw
