/- The abstract evaluator, part K2: places; slices; what is made. -/
import Derived.Test.YtnccnmeecngopaaFwK1
set_option linter.unusedVariables false
set_option linter.unusedSimpArgs false
namespace Go.Proofs.Ytnccnmeecngopaa.Fw
open Go Go.RowKit

section
variable {P : Program} {B : Nat} {ρ : Map} {old : List Nat → Prop} {w : World} {st : List Nat} {H H' : Heap} {own : Site} {e : Env} {a : Act} {o : Oper} {m : MOp} {v : AV}

theorem does_faddr {t : TypeId} {x : Operand} {i : Nat} (hop : o.op = .fieldAddr t x i) (hm : compOp P o.op = some m) (h : opSem own st m e H = some (v, H')) (hE : ERel ρ old w e a.tmps) (hH : HRel B ρ old w H) : Does P B own.d H ρ old w st a.eval o v H' := by
  simp only [hop, compOp] at hm
  split at hm <;> first | (cases hm; done) | skip
  rename_i fs x' h1 h2
  split at hm <;> first | (cases hm; done) | skip
  rename_i f hf
  split at hm <;> first | (cases hm; done) | skip
  rename_i n hn
  split at hm <;> first | (cases hm; done) | skip
  rename_i hpos
  cases hm
  have hr := opd_rel hE h2
  have run : ∀ p, a.eval x = .pointer (some p) → (execOp a.eval o).run P w = .ok (.value (.pointer (some (p.add f.offset)))) w := by
    intro p hp
    have hs := tySize_run hn w
    simp [execOp, hop, hp, Instr.fieldAt, run_underlying h1, hf, Instr.sureAddr, fieldPlace, hs, show n ≠ 0 by omega]
  simp only [opSem] at h
  split at h
  · rename_i s st' j off hv
    rw [hv] at hr
    cases h
    simp only [RelV] at hr
    obtain ⟨ho, p, hp, hq⟩ := hr
    refine Does.val hH (run p hp) ?_
    simp only [RelV]
    refine ⟨ho, _, rfl, fun b z hb => ?_⟩
    rw [hq b z hb, add_at, Nat.add_assoc]
  · rename_i cs hv
    rw [hv] at hr
    cases h
    simp only [RelV] at hr
    obtain ⟨b, o', hp, hq⟩ := hr
    refine Does.val hH (run _ hp) ?_
    simp only [RelV]
    exact ⟨b, o' + f.offset, by rw [add_at], hq.drop⟩
  · cases h

theorem take_part {t : TypeId} {agg : Bool} {n : Nat} (ht : tyLoad P t = some (agg, n)) {cs : List AV} {ys : Array Value} {off : Nat} (hl : RelL ρ old w cs ys.toList) (h : takeCells agg n cs off = some v) :
    ∃ u, (part t ys off).run P w = .ok u w ∧ RelV ρ old w v u := by
  obtain ⟨h1, h2⟩ := tyLoad_run ht w
  have hlen := relL_length hl
  unfold takeCells at h
  cases agg with
  | true =>
    simp only [if_true] at h
    split at h
    · rename_i hle
      cases h
      refine ⟨.agg (ys.extract off (off + n)), by simp [part, h1, h2], ?_⟩
      simp only [RelV]
      refine ⟨_, rfl, ?_⟩
      have gen : ∀ (cs : List AV) (ys : List Value) (k n : Nat), RelL ρ old w cs ys → RelL ρ old w ((cs.drop k).take n) ((ys.drop k).take n) := by
        intro cs
        induction cs with
        | nil => intro ys k n h; cases ys with
          | nil => simp [RelL]
          | cons _ _ => simp only [RelL] at h
        | cons c cs ih =>
          intro ys k n h
          cases ys with
          | nil => simp only [RelL] at h
          | cons y ys =>
            simp only [RelL] at h
            cases k with
            | zero =>
              cases n with
              | zero => simp [RelL]
              | succ n =>
                simp only [List.drop_zero, List.take_succ_cons, RelL]
                exact ⟨h.1, by simpa using ih ys 0 n h.2⟩
            | succ k => simpa using ih ys k n h.2
      have := gen cs ys.toList off n hl
      simpa [Array.toList_extract, List.extract_eq_take_drop] using this
    · cases h
  | false =>
    simp only [Bool.false_eq_true, if_false] at h
    obtain ⟨u, h3, h4⟩ := relL_at hl off v h
    have h3' : ys[off]? = some u := by simpa using h3
    exact ⟨u, by simp [part, h1, h3'], h4⟩

theorem does_field {t : TypeId} {x : Operand} {i : Nat} (hop : o.op = .field t x i) (hm : compOp P o.op = some m) (h : opSem own st m e H = some (v, H')) (hE : ERel ρ old w e a.tmps) (hH : HRel B ρ old w H) : Does P B own.d H ρ old w st a.eval o v H' := by
  simp only [hop, compOp] at hm
  split at hm <;> first | (cases hm; done) | skip
  rename_i fs x' h1 h2
  split at hm <;> first | (cases hm; done) | skip
  rename_i f hf
  cases ht : tyLoad P f.type with
  | none => simp [ht] at hm
  | some an =>
    obtain ⟨agg, n⟩ := an
    simp [ht] at hm; subst hm
    have hr := opd_rel hE h2
    simp only [opSem] at h
    split at h
    · rename_i cs hv
      rw [hv] at hr
      cases hk : takeCells agg n cs f.offset with
      | none => simp [hk] at h
      | some z =>
        simp [hk] at h
        obtain ⟨rfl, rfl⟩ := h
        simp only [RelV] at hr
        obtain ⟨ys, hy, hl⟩ := hr
        obtain ⟨u, hu, hr'⟩ := take_part (P := P) ht hl hk
        exact Does.val hH (by simp [execOp, hop, hy, Instr.field, run_underlying h1, hf, asAgg, hu]) hr'
    · cases h

theorem idx_spec {i : AV} {n k : Nat} {u : Value} (h : idx i n = some k) (hr : RelV ρ old w i u) : ∃ ik, u = .int ik (k : Int) ∧ k < n := by
  unfold idx at h
  split at h
  · rename_i ik z
    split at h
    · rename_i hz
      cases h
      exact ⟨ik, by rw [rel_v hr, Int.toNat_of_nonneg hz.1], by omega⟩
    · cases h
  · cases h

theorem does_index {t : TypeId} {x i : Operand} (hop : o.op = .index t x i) (hm : compOp P o.op = some m) (h : opSem own st m e H = some (v, H')) (hE : ERel ρ old w e a.tmps) (hH : HRel B ρ old w H) : Does P B own.d H ρ old w st a.eval o v H' := by
  simp only [hop, compOp] at hm
  split at hm <;> first | (cases hm; done) | skip
  · rename_i n el x' i' h1 h2 h3
    cases ht : tyLoad P el with
    | none => simp [ht] at hm
    | some an =>
      obtain ⟨agg, z⟩ := an
      simp [ht] at hm; subst hm
      have hr := opd_rel hE h2
      have hi := opd_rel hE h3
      simp only [opSem] at h
      split at h
      · rename_i cs hv
        rw [hv] at hr
        split at h
        · cases h
        · rename_i k hk
          obtain ⟨ik, hu, hlt⟩ := idx_spec hk hi
          cases hq : takeCells agg z cs (k * z) with
          | none => simp [hq] at h
          | some y =>
            simp [hq] at h
            obtain ⟨rfl, rfl⟩ := h
            simp only [RelV] at hr
            obtain ⟨ys, hy, hl⟩ := hr
            obtain ⟨u, hu', hr'⟩ := take_part (P := P) ht hl hq
            have hs := (tyLoad_run ht w).2
            exact Does.val hH (by simp [execOp, hop, hy, hu, Instr.index, asIntOf, run_underlying h1, hlt, hs, hu', show (0:Int) ≤ (k:Int) from Int.natCast_nonneg k]) hr'
      · cases h
  · rename_i x' i' h1 h2 h3
    cases hm
    have hr := opd_rel hE h2
    have hi := opd_rel hE h3
    simp only [opSem] at h
    split at h
    · rename_i s hv
      rw [hv] at hr
      split at h
      · cases h
      · rename_i k hk
        obtain ⟨ik, hu, hlt⟩ := idx_spec hk hi
        have hs := rel_v hr
        cases hq : s.data[k]? with
        | none => simp [hq] at h
        | some y =>
          simp only [hq, Option.map_some, Option.some.injEq, Prod.mk.injEq] at h
          obtain ⟨rfl, rfl⟩ := h
          have hsk : s[k]? = some y := by
            have : k < s.data.size := hlt
            rw [Array.getElem?_eq_getElem this] at hq
            cases hq
            rw [getElem?_pos s k hlt]; rfl
          exact Does.val (u := .int .u8 y.toNat) hH (by simp [execOp, hop, hs, hu, Instr.index, asIntOf, run_underlying h1, hsk, show (0:Int) ≤ (k:Int) from Int.natCast_nonneg k]) (rel_v_mk _)
    · cases h

theorem RelEls.get {b z : Nat} : ∀ {o k : Nat} {els : List (List AV)} {cs : List AV}, RelEls ρ old w b o z els → els[k]? = some cs → cs.length = z ∧ RelCells ρ old w b (o + k * z) cs
  | o, k, [], cs, h, hk => by simp at hk
  | o, 0, c :: r, cs, h, hk => by
    simp only [RelEls] at h
    simp at hk; subst hk
    exact ⟨h.1, by simpa using h.2.1⟩
  | o, k + 1, c :: r, cs, h, hk => by
    simp only [RelEls] at h
    simp at hk
    have := RelEls.get h.2.2 hk
    refine ⟨this.1, ?_⟩
    rw [show o + (k + 1) * z = o + z + k * z by rw [Nat.add_mul]; omega]
    exact this.2

theorem does_iaddr {t : TypeId} {x i : Operand} (hop : o.op = .indexAddr t x i) (hm : compOp P o.op = some m) (h : opSem own st m e H = some (v, H')) (hE : ERel ρ old w e a.tmps) (hH : HRel B ρ old w H) : Does P B own.d H ρ old w st a.eval o v H' := by
  simp only [hop, compOp] at hm
  split at hm <;> first | (cases hm; done) | skip
  · rename_i n el x' i' h1 h2 h3
    cases ht : tySize P el with
    | none => simp [ht] at hm
    | some z =>
      simp [ht] at hm; subst hm
      have hr := opd_rel hE h2
      have hi := opd_rel hE h3
      have hs := tySize_run ht w
      have run : ∀ p k ik, a.eval x = .pointer (some p) → a.eval i = .int ik (k : Nat) → k < n → (execOp a.eval o).run P w = .ok (.value (.pointer (some (p.add (k * z))))) w := by
        intro p k ik hp hk hlt
        simp [execOp, hop, hp, hk, Instr.indexAt, asIntOf, run_underlying h1, Instr.sureAddr, hlt, hs, show (0:Int) ≤ (k:Int) from Int.natCast_nonneg k]
      simp only [opSem] at h
      split at h
      · rename_i s st' j off hv
        rw [hv] at hr
        cases hk : idx (i'.ev e) n with
        | none => simp [hk] at h
        | some k =>
          simp [hk] at h
          obtain ⟨rfl, rfl⟩ := h
          obtain ⟨ik, hu, hlt⟩ := idx_spec hk hi
          simp only [RelV] at hr
          obtain ⟨ho, p, hp, hq⟩ := hr
          refine Does.val hH (run p k ik hp hu hlt) ?_
          simp only [RelV]
          refine ⟨ho, _, rfl, fun b z' hb => ?_⟩
          rw [hq b z' hb, add_at, Nat.add_assoc]
      · rename_i cs hv
        rw [hv] at hr
        cases hk : idx (i'.ev e) n with
        | none => simp [hk] at h
        | some k =>
          simp [hk] at h
          obtain ⟨rfl, rfl⟩ := h
          obtain ⟨ik, hu, hlt⟩ := idx_spec hk hi
          simp only [RelV] at hr
          obtain ⟨b, o', hp, hq⟩ := hr
          refine Does.val hH (run _ k ik hp hu hlt) ?_
          simp only [RelV]
          exact ⟨b, o' + k * z, by rw [add_at], hq.drop⟩
      · simp at h
      · simp at h
      · cases h
  · rename_i el x' i' h1 h2 h3
    cases ht : tySize P el with
    | none => simp [ht] at hm
    | some z =>
      simp [ht] at hm; subst hm
      have hr := opd_rel hE h2
      have hi := opd_rel hE h3
      have hs := tySize_run ht w
      have run : ∀ p len cap k ik, a.eval x = .slice (some p) len cap → a.eval i = .int ik (k : Nat) → k < len → (execOp a.eval o).run P w = .ok (.value (.pointer (some (p.add (k * z))))) w := by
        intro p len cap k ik hp hk hlt
        simp [execOp, hop, hp, hk, Instr.indexAt, asIntOf, run_underlying h1, hlt, hs, show (0:Int) ≤ (k:Int) from Int.natCast_nonneg k]
      simp only [opSem] at h
      split at h
      · simp at h
      · simp at h
      · rename_i s st' z' off len full hv
        rw [hv] at hr
        simp only [Option.isSome_none, Bool.false_eq_true, if_false] at h
        split at h
        · rename_i hz; subst hz
          cases hk : idx (i'.ev e) len with
          | none => simp [hk] at h
          | some k =>
            simp [hk] at h
            obtain ⟨rfl, rfl⟩ := h
            obtain ⟨ik, hu, hlt⟩ := idx_spec hk hi
            simp only [RelV] at hr
            obtain ⟨ho, p, cap, hp, hlc, hfull, hq⟩ := hr
            refine Does.val hH (run p len cap k ik hp hu hlt) ?_
            simp only [RelV]
            refine ⟨ho, _, rfl, fun b z'' hb => ?_⟩
            obtain ⟨rfl, hq2⟩ := hq b z'' hb
            rw [hq2.1 (by omega), add_at, Nat.add_mul]
            simp
        · cases h
      · rename_i z' els hv
        rw [hv] at hr
        simp only [Option.isSome_none, Bool.false_eq_true, if_false] at h
        split at h
        · cases h
        · rename_i k hk
          split at h
          · cases h
          · rename_i cs hcs
            split at h
            · rename_i hz; subst hz
              cases h
              obtain ⟨ik, hu, hlt⟩ := idx_spec hk hi
              simp only [RelV] at hr
              obtain ⟨p, cap, hp, hlc, hsp, hq⟩ := hr
              refine Does.val hH (run p _ cap k ik hp hu hlt) ?_
              obtain ⟨_, hc⟩ := hq.get hcs
              simp only [RelV]
              have hps : p = ⟨p.block, p.off, none⟩ := by
                have := hsp (by intro h0; rw [h0] at hcs; simp at hcs)
                cases p; simp_all
              exact ⟨p.block, p.off + k * z', by rw [hps, add_at], hc⟩
            · cases h
      · cases h
end
end Go.Proofs.Ytnccnmeecngopaa.Fw
