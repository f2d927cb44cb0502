/- The abstract evaluator, part L: every operation that is no call does what 'opSem' says. -/
import Derived.Test.YtnccnmeecngopaaFwK
set_option linter.unusedVariables false
set_option linter.unusedSimpArgs false
namespace Go.Proofs.Ytnccnmeecngopaa.Fw
open Go Go.RowKit

section
variable {P : Program} {B : Nat} {ρ : Map} {old : List Nat → Prop} {w : World} {st : List Nat} {H H' : Heap} {own : Site} {e : Env} {a : Act} {o : Oper} {m : MOp} {v : AV}

theorem Does.of_next {ρe : Operand → Value} {u : Value} {w' : World} (hH : HRel B ρ old w H) (h : (execOp ρe o).run P w = .ok (.value u) w') (hs : Still w w') (hr : RelV ρ old w v u) : Does P B own.d H ρ old w st ρe o v H := by
  obtain ⟨k, hH'⟩ := hH.same (w' := w') (old' := old) (fun k _ => by rw [hs.heap]) (fun _ h => h)
  exact ⟨.value u, u, w', ρ, old, h, .inl rfl, k, RelV.mono k _ _ hr, hH', hs.below B, fun s h => .inl h, rfl, Fr.same (fun b _ => by rw [hs.heap]) fun s b z st e => (hH.inb _ _ _ _ e).2⟩

theorem compBi_cases {b : Builtin} {ts : Array TypeId} {xs : List Opd} (h : compBi P b ts xs = some m) : (∃ k, m = .bi k xs ∧ biOf P b ts k) ∨ b = .append := by
  by_cases hb : b = .append
  · exact .inr hb
  · left
    have hm : ∃ k ys, m = .bi k ys := by
      unfold compBi at h
      split at h <;> first | (cases h; done) | (exact absurd rfl hb) | skip
      all_goals first | (cases h; exact ⟨_, _, rfl⟩) | skip
      split at h
      · cases h
      · split at h <;> first | (cases h; done) | (cases h; exact ⟨_, _, rfl⟩)
    obtain ⟨k, ys, rfl⟩ := hm
    obtain ⟨h1, rfl⟩ := biOf_comp h
    exact ⟨k, rfl, h1⟩

theorem does_call {c : Call} (hop : o.op = .call c) (hm : compOp P o.op = some m) (h : opSem own st m e H = some (v, H')) (hE : ERel ρ old w e a.tmps) (hH : HRel B ρ old w H) (hB : B ≤ w.heap.size) (hst : ¬ old st) : Does P B own.d H ρ old w st a.eval o v H' := by
  obtain ⟨callee, args, ts⟩ := c
  have hm0 := hm
  simp only [hop, compOp] at hm
  split at hm <;> first | (cases hm; done) | skip
  rename_i xs hxs
  have hargs := opds_rel hE hxs
  have hargs' : RelL ρ old w (Opd.evs e xs) (args.map a.eval).toList := by simpa using hargs
  split at hm
  · rename_i b
    rcases compBi_cases hm with ⟨k, rfl, hk⟩ | rfl
    · simp only [opSem] at h
      cases hb : biSem k (Opd.evs e xs) with
      | none => simp [hb] at h
      | some z =>
        simp [hb] at h
        obtain ⟨rfl, rfl⟩ := h
        obtain ⟨u, w', h1, h2, h3⟩ := bi_yields (P := P) (ty := o.type) (cs := args.map fun | .const _ => true | _ => false) hk hargs' hb
        refine Does.of_next hH (u := u) (w' := w') ?_ h2 h3
        simp only [execOp, hop, resolve, Sem.run_bind, Sem.run_pure, Result.andThen_ok, invoke]
        exact h1
    · exact does_append hop hm0 h hE hH hB hst
  · rename_i f
    split at hm <;> first | (cases hm; done) | skip
    rename_i fn hf
    split at hm <;> first | (cases hm; done) | skip
    split at hm
    · rename_i hn hb
      cases hk : extKind fn with
      | none => simp [hk] at hm
      | some k =>
        simp [hk] at hm; subst hm
        simp only [opSem] at h
        cases hq : extSem k (Opd.evs e xs) with
        | none => simp [hq] at h
        | some z =>
          simp [hq] at h
          obtain ⟨rfl, rfl⟩ := h
          obtain ⟨u, w', h1, h2, h3⟩ := ext_yields (P := P) (us := args.map a.eval) hf hb hk hargs' hq
          refine Does.of_next hH (u := u) (w' := w') ?_ h2 h3
          simp only [execOp, hop, resolve, Act.eval, Deferred.ofValue, Sem.run_bind, Sem.run_pure, Result.andThen_ok, invoke, Array.append_empty, Array.empty_append]
          exact h1
    · cases hm; simp only [opSem] at h; cases h
  · cases hm; simp only [opSem] at h; cases h
  · cases hm

theorem opSem_does (hm : compOp P o.op = some m) (h : opSem own st m e H = some (v, H')) (hE : ERel ρ old w e a.tmps) (hH : HRel B ρ old w H) (hB : B ≤ w.heap.size) (hst : ¬ old st) : Does P B own.d H ρ old w st a.eval o v H' := by
  cases hop : o.op with
  | move x => exact does_mov (.inl hop) hm h hE hH
  | assign x => exact does_mov (.inr hop) hm h hE hH
  | pick c x y => exact does_pick hop hm h hE hH
  | alloc t => exact does_alloc hop hm h hE hH hB hst
  | box t x => exact does_box hop hm h hE hH hB hst
  | build t ps => exact does_build hop hm h hE hH
  | buildSlice t n ps => exact does_mkslice hop hm h hE hH hB hst
  | load t x => exact does_load hop hm h hE hH
  | store t x y => exact does_store hop hm h hE hH
  | nilCheck x => exact does_nilck hop hm h hE hH
  | binOp op t x y t' => exact does_bin hop hm h hE hH
  | unOp op t x => exact does_un hop hm h hE hH
  | convert s t x => exact does_conv hop hm h hE hH
  | makeFunc f xs ys =>
    cases f with
    | func f => exact does_mkfn hop hm h hE hH
    | _ => simp [hop, compOp] at hm
  | makeSlice t x y => exact does_make hop hm h hE hH hB hst
  | slice t x lo hi mx => exact does_slice hop hm h hE hH
  | fieldAddr t x i => exact does_faddr hop hm h hE hH
  | field t x i => exact does_field hop hm h hE hH
  | indexAddr t x i => exact does_iaddr hop hm h hE hH
  | index t x i => exact does_index hop hm h hE hH
  | extract x i => exact does_extract hop hm h hE hH
  | call c => exact does_call hop hm h hE hH hB hst
  | _ => simp [hop, compOp] at hm
end
end Go.Proofs.Ytnccnmeecngopaa.Fw
