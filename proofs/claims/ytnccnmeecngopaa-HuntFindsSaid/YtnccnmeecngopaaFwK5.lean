/- The abstract evaluator, part K5: slices, rows that are made. -/
import Derived.Test.YtnccnmeecngopaaFwK4
set_option linter.unusedVariables false
set_option linter.unusedSimpArgs false
namespace Go.Proofs.Ytnccnmeecngopaa.Fw
open Go Go.RowKit

section
variable {P : Program} {B : Nat} {ρ : Map} {old : List Nat → Prop} {w : World} {st : List Nat} {H H' : Heap} {own : Site} {e : Env} {a : Act} {o : Oper} {m : MOp} {v : AV}

/-- a bound, if there is one -/
def BndIs (x : Option Value) (r dflt most : Nat) : Prop := (x = none ∧ r = dflt) ∨ (∃ ik, x = some (.int ik (r : Int)) ∧ r ≤ most)
theorem bnd_spec {x : Option Operand} {i : Option Opd} {dflt mo r : Nat} (hE : ERel ρ old w e a.tmps) (hx : opdO x = some i) (h : bnd (optEv e i) dflt mo = some r) : BndIs (x.map a.eval) r dflt mo := by
  cases x with
  | none => simp only [opdO] at hx; cases hx; simp only [optEv, bnd] at h; cases h; exact .inl ⟨rfl, rfl⟩
  | some y =>
    simp only [opdO] at hx
    cases hy : opd y with
    | none => simp [hy] at hx
    | some y' =>
      simp [hy] at hx; subst hx
      simp only [optEv] at h
      have hr := opd_rel hE hy
      unfold bnd at h
      split at h
      · rename_i heq; cases heq
      · rename_i ik k heq
        split at h
        · rename_i hk
          cases h
          simp at heq
          rw [heq] at hr
          refine .inr ⟨ik, by simp [rel_v hr, Int.toNat_of_nonneg hk.1], by omega⟩
        · cases h
      · cases h
theorem sliceBound_run {ik : IntKind} {r y : Nat} (code : BoundsCode) (h : r ≤ y) (w : World) : (Instr.sliceBound (.int ik (r : Int)) y code).run P w = .ok r w := by
  simp [Instr.sliceBound, asIntOf, h]
theorem sliceBounds_run {isS : Bool} {len cap l h mm : Nat} {lo hi mx : Option Value} (hm : BndIs mx mm cap cap) (hh : BndIs hi h len mm) (hl : BndIs lo l 0 h) (hno : mx.isSome = true → hi.isSome = true) (w : World) :
    (Instr.sliceBounds isS len cap lo hi mx).run P w = .ok (l, h, mm) w := by
  unfold Instr.sliceBounds
  rcases hm with ⟨rfl, rfl⟩ | ⟨k1, rfl, m1⟩ <;> rcases hh with ⟨rfl, rfl⟩ | ⟨k2, rfl, m2⟩ <;> rcases hl with ⟨rfl, rfl⟩ | ⟨k3, rfl, m3⟩ <;> simp_all [sliceBound_run]

theorem RelEls.drop {b z : Nat} : ∀ {o k : Nat} {els : List (List AV)}, RelEls ρ old w b o z els → RelEls ρ old w b (o + k * z) z (els.drop k)
  | o, 0, els, h => by simpa using h
  | o, k + 1, [], h => by simp only [List.drop_nil, RelEls]
  | o, k + 1, c :: r, h => by
    simp only [RelEls] at h
    have := RelEls.drop (k := k) h.2.2
    simpa [show o + (k + 1) * z = o + z + k * z by rw [Nat.add_mul]; omega] using this
theorem RelEls.take {b z : Nat} : ∀ {o k : Nat} {els : List (List AV)}, RelEls ρ old w b o z els → RelEls ρ old w b o z (els.take k)
  | o, 0, els, h => by simp only [List.take_zero, RelEls]
  | o, k + 1, [], h => by simp only [List.take_nil, RelEls]
  | o, k + 1, c :: r, h => by
    simp only [RelEls] at h
    simp only [List.take_succ_cons, RelEls]
    exact ⟨h.1, h.2.1, RelEls.take h.2.2⟩

theorem bnd_isSome {i : Option AV} {d mo r : Nat} (h : bnd i d mo = some r) : i.isSome = false → r = d := by
  intro hi
  cases i with
  | none => simp only [bnd] at h; cases h; rfl
  | some _ => simp at hi

theorem BndIs.weaken {x : Option Value} {r d d' mo mo' : Nat} (h : BndIs x r d mo) (hd : x = none → d' = r) (hm : mo ≤ mo') : BndIs x r d' mo' := by
  rcases h with ⟨h1, h2⟩ | ⟨k, h1, h2⟩
  · exact .inl ⟨h1, (hd h1).symm⟩
  · exact .inr ⟨k, h1, by omega⟩

theorem BndIs.le {x : Option Value} {r d mo : Nat} (h : BndIs x r d mo) (hd : d ≤ mo) : r ≤ mo := by
  rcases h with ⟨_, h2⟩ | ⟨k, _, h2⟩ <;> omega
theorem opdO_isSome {q : Option Operand} {q' : Option Opd} (hq : opdO q = some q') : q'.isSome = q.isSome := by
  cases q with
  | none => simp only [opdO] at hq; cases hq; rfl
  | some q =>
    simp only [opdO] at hq
    cases hy : opd q with
    | none => simp [hy] at hq
    | some y => simp [hy] at hq; subst hq; rfl
theorem optEv_isSome (e : Env) (q : Option Opd) : (optEv e q).isSome = q.isSome := by cases q <;> rfl

theorem does_slice {t : TypeId} {x : Operand} {lo hi mx : Option Operand} (hop : o.op = .slice t x lo hi mx) (hm : compOp P o.op = some m) (h : opSem own st m e H = some (v, H')) (hE : ERel ρ old w e a.tmps) (hH : HRel B ρ old w H) : Does P B own.d H ρ old w st a.eval o v H' := by
  simp only [hop, compOp] at hm
  split at hm <;> first | (cases hm; done) | skip
  · rename_i el x' lo' hi' mx' h1 h2 h3 h4 h5
    split at hm
    · cases hm
    rename_i hno
    cases hz : tySize P el with
    | none => simp [hz] at hm
    | some z =>
      simp [hz] at hm; subst hm
      have hs := tySize_run hz w
      have hr := opd_rel hE h2
      simp only [opSem] at h
      cases hq : sliceSem (some z) (x'.ev e) (optEv e lo') (optEv e hi') (optEv e mx') with
      | none => simp [hq] at h
      | some y =>
        simp [hq] at h
        obtain ⟨rfl, rfl⟩ := h
        have hno' : (mx.map a.eval).isSome = true → (hi.map a.eval).isSome = true := by
          intro hh
          have e1 := opdO_isSome h5
          have e2 := opdO_isSome h4
          simp only [Option.isSome_map] at hh ⊢
          rw [← e1] at hh
          rw [← e2]
          cases hi' <;> simp_all
        have run : ∀ (aa : Option Addr) (len cap l hh mm : Nat), a.eval x = .slice aa len cap → BndIs (mx.map a.eval) mm cap cap → BndIs (hi.map a.eval) hh len mm → BndIs (lo.map a.eval) l 0 hh →
            (execOp a.eval o).run P w = .ok (.value (.slice (if mm = l then aa else aa.map (·.add (l * z))) (hh - l) (mm - l))) w := by
          intro aa len cap l hh mm hx b1 b2 b3
          have hsb := sliceBounds_run (P := P) (isS := true) b1 b2 b3 hno' w
          simp [execOp, hop, hx, Instr.sliceAt, Instr.slice, run_underlying h1, hsb, hs]
        unfold sliceSem at hq
        split at hq
        · rename_i s st' z' off len full hv
          rw [hv] at hr
          split at hq <;> first | (cases hq; done) | skip
          rename_i hzz
          obtain rfl : z = z' := by simpa using hzz
          split at hq <;> first | (cases hq; done) | skip
          rename_i mm hmm
          split at hq <;> first | (cases hq; done) | skip
          rename_i hh hhh
          split at hq <;> first | (cases hq; done) | skip
          rename_i l hl
          cases hq
          have e1 := bnd_spec hE h5 hmm
          have e2 := bnd_spec hE h4 hhh
          have e3 := bnd_spec hE h3 hl
          simp only [RelV] at hr
          obtain ⟨ho, p, cap, hx, hlc, hfull, hp⟩ := hr
          have l1 : l ≤ hh := e3.le (Nat.zero_le _)
          have key : ∀ M : Nat, M ≤ cap → hh ≤ M → ((if (optEv e mx').isSome then decide (mm = hh) else full && decide (hh = len)) = true → M = hh) → BndIs (mx.map a.eval) M cap cap → BndIs (hi.map a.eval) hh len M →
              Does P B own.d H ρ old w st a.eval o (.slc s st' z (off + l) (hh - l) (if (optEv e mx').isSome then decide (mm = hh) else full && decide (hh = len))) H := by
            intro M hMc hhM hfl b1 b2
            refine Does.val hH (run (some p) len cap l hh M hx b1 b2 e3) ?_
            have ea : (if M = l then (some p : Option Addr) else (some p : Option Addr).map (·.add (l * z))) = some (if M = l then p else p.add (l * z)) := by split <;> rfl
            rw [ea]
            simp only [RelV]
            refine ⟨ho, _, _, rfl, by omega, fun hf => by have := hfl hf; omega, fun b z' hb => ?_⟩
            obtain ⟨q1, q2, ty, n, q3, q4⟩ := hp b z' hb
            refine ⟨q1, fun hpos => ?_, ty, n, q3, ?_⟩
            · rw [if_neg (by omega), q2 (by omega), add_at, Nat.add_mul]
            · rw [show off + l + (M - l) = off + M by omega]
              exact Nat.le_trans (Nat.mul_le_mul_right _ (by omega)) q4
          cases hmx : mx with
          | none =>
            have hs0 : (optEv e mx').isSome = false := by rw [optEv_isSome, opdO_isSome h5, hmx]; rfl
            rw [hs0] at e2
            have e2' : BndIs (hi.map a.eval) hh len len := by simpa using e2
            have l2 : hh ≤ len := e2'.le (Nat.le_refl _)
            refine key cap (Nat.le_refl _) (by omega) ?_ (by rw [hmx]; exact .inl ⟨rfl, rfl⟩) (e2'.weaken (fun hn => by rcases e2' with ⟨_, q⟩ | ⟨k, q, _⟩; exact q.symm; rw [hn] at q; cases q) hlc)
            rw [hs0]
            simp only [Bool.false_eq_true, if_false, Bool.and_eq_true, decide_eq_true_eq]
            rintro ⟨f1, f2⟩
            have := hfull f1; omega
          | some q =>
            have hs1 : (optEv e mx').isSome = true := by rw [optEv_isSome, opdO_isSome h5, hmx]; rfl
            rw [hs1] at e2
            simp only [if_true] at e2
            have l3 : mm ≤ len := e1.le (Nat.le_refl _)
            have l4 : hh ≤ mm := by
              rcases e2 with ⟨q1, _⟩ | ⟨k, _, q2⟩
              · have := hno' (by rw [hmx]; rfl)
                rw [q1] at this; cases this
              · exact q2
            refine key mm (by omega) l4 ?_ ?_ e2
            · rw [hs1]; simp
            · rcases e1 with ⟨q1, _⟩ | ⟨k, q1, q2⟩
              · rw [hmx] at q1; cases q1
              · exact .inr ⟨k, q1, by omega⟩
        · rename_i z' els hv
          rw [hv] at hr
          split at hq <;> first | (cases hq; done) | skip
          rename_i hzz
          obtain rfl : z = z' := by simpa using hzz
          split at hq <;> first | (cases hq; done) | skip
          rename_i mm hmm
          split at hq <;> first | (cases hq; done) | skip
          rename_i hh hhh
          split at hq <;> first | (cases hq; done) | skip
          rename_i l hl
          cases hq
          have e1 := bnd_spec hE h5 hmm
          have e2 := bnd_spec hE h4 hhh
          have e3 := bnd_spec hE h3 hl
          simp only [RelV] at hr
          obtain ⟨p, cap, hx, hlc, hsp, hels⟩ := hr
          have l1 : l ≤ hh := e3.le (Nat.zero_le _)
          have key : ∀ M : Nat, M ≤ cap → hh ≤ M → hh ≤ els.length → BndIs (mx.map a.eval) M cap cap → BndIs (hi.map a.eval) hh els.length M →
              Does P B own.d H ρ old w st a.eval o (.lst z ((els.take hh).drop l)) H := by
            intro M hMc hhM hhl b1 b2
            refine Does.val hH (run (some p) els.length cap l hh M hx b1 b2 e3) ?_
            have ea : (if M = l then (some p : Option Addr) else (some p : Option Addr).map (·.add (l * z))) = some (if M = l then p else p.add (l * z)) := by split <;> rfl
            rw [ea]
            have elen : ((els.take hh).drop l).length = hh - l := by simp; omega
            simp only [RelV]
            rw [elen]
            by_cases hl0 : hh - l = 0
            · have en : (els.take hh).drop l = [] := List.eq_nil_of_length_eq_zero (by omega)
              rw [en]
              exact ⟨_, _, rfl, by omega, fun hn => absurd rfl hn, by simp only [RelEls]⟩
            · have hne : els ≠ [] := by rintro rfl; simp at hhl; omega
              have hps : p = ⟨p.block, p.off, none⟩ := by have := hsp hne; cases p; simp_all
              refine ⟨⟨p.block, p.off + l * z, none⟩, M - l, ?_, by omega, fun _ => rfl, (hels.take).drop⟩
              rw [if_neg (by omega)]
              conv => lhs; rw [hps, add_at]
          cases hmx : mx with
          | none =>
            have hs0 : (optEv e mx').isSome = false := by rw [optEv_isSome, opdO_isSome h5, hmx]; rfl
            rw [hs0] at e2
            have e2' : BndIs (hi.map a.eval) hh els.length els.length := by simpa using e2
            have l2 : hh ≤ els.length := e2'.le (Nat.le_refl _)
            exact key cap (Nat.le_refl _) (by omega) l2 (by rw [hmx]; exact .inl ⟨rfl, rfl⟩) (e2'.weaken (fun hn => by rcases e2' with ⟨_, q⟩ | ⟨k, q, _⟩; exact q.symm; rw [hn] at q; cases q) hlc)
          | some q =>
            have hs1 : (optEv e mx').isSome = true := by rw [optEv_isSome, opdO_isSome h5, hmx]; rfl
            rw [hs1] at e2
            simp only [if_true] at e2
            have l3 : mm ≤ els.length := e1.le (Nat.le_refl _)
            have l4 : hh ≤ mm := by
              rcases e2 with ⟨q1, _⟩ | ⟨k, _, q2⟩
              · have := hno' (by rw [hmx]; rfl)
                rw [q1] at this; cases this
              · exact q2
            refine key mm (by omega) l4 (by omega) ?_ e2
            rcases e1 with ⟨q1, _⟩ | ⟨k, q1, q2⟩
            · rw [hmx] at q1; cases q1
            · exact .inr ⟨k, q1, by omega⟩
        · rename_i hv
          rw [hv] at hr
          simp only [Option.isNone_some, Bool.false_eq_true, if_false] at hq
          split at hq <;> first | (cases hq; done) | skip
          rename_i mm hh l hmm hhh hl
          cases hq
          have e1 := bnd_spec hE h5 hmm
          have e2 := bnd_spec hE h4 hhh
          have e3 := bnd_spec hE h3 hl
          have m0 : mm = 0 := by have := e1.le (Nat.le_refl _); omega
          have h0 : hh = 0 := by have := e2.le (Nat.le_refl _); omega
          have l0 : l = 0 := by have := e3.le (Nat.le_refl _); omega
          subst m0; subst h0; subst l0
          have hx : a.eval x = .slice none 0 0 := by simpa only [RelV] using hr
          refine Does.val hH (run none 0 0 0 0 0 hx e1 e2 e3) ?_
          simp only [RelV]
          simp
        · simp at hq
        · cases hq
  · rename_i x' lo' hi' h1 h2 h3 h4 h5
    cases hm
    have hr := opd_rel hE h2
    simp only [opSem] at h
    cases hq : sliceSem none (x'.ev e) (optEv e lo') (optEv e hi') (optEv e none) with
    | none => simp [hq] at h
    | some y =>
      simp [hq] at h
      obtain ⟨rfl, rfl⟩ := h
      have hmx : mx = none := by
        cases mx with
        | none => rfl
        | some q =>
          simp only [opdO] at h5
          cases hy : opd q <;> simp [hy] at h5
      subst hmx
      unfold sliceSem at hq
      split at hq
      · simp at hq
      · simp at hq
      · simp at hq
      · rename_i s hv
        rw [hv] at hr
        have hx := rel_v hr
        simp only [Option.isSome_none, optEv, Bool.or_self, Bool.false_eq_true, if_false] at hq
        split at hq <;> first | (cases hq; done) | skip
        rename_i hh hhh
        split at hq <;> first | (cases hq; done) | skip
        rename_i l hl
        cases hq
        have e2 := bnd_spec hE h4 hhh
        have e3 := bnd_spec hE h3 hl
        have hsb := sliceBounds_run (P := P) (isS := false) (mm := s.size) (cap := s.size) (mx := none) (.inl ⟨rfl, rfl⟩) e2 e3 (by simp) w
        exact Does.val (u := .string (s.extract l hh)) hH (by simp [execOp, hop, hx, Instr.sliceAt, Instr.slice, run_underlying h1, hsb]) (rel_v_mk _)
      · cases hq
end
end Go.Proofs.Ytnccnmeecngopaa.Fw
