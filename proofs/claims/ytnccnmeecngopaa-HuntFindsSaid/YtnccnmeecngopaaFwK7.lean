/- The abstract evaluator, part K7: make, append, copy. -/
import Derived.Test.YtnccnmeecngopaaFwK6
import Derived.Deep.AppendSrc
set_option linter.unusedVariables false
set_option linter.unusedSimpArgs false
namespace Go.Proofs.Ytnccnmeecngopaa.Fw
open Go Go.RowKit

section
variable {P : Program} {B : Nat} {ρ : Map} {old : List Nat → Prop} {w : World} {st : List Nat} {H H' : Heap} {own : Site} {e : Env} {a : Act} {o : Oper} {m : MOp} {v : AV}

theorem does_make {t : TypeId} {x y : Operand} (hop : o.op = .makeSlice t x y) (hm : compOp P o.op = some m) (h : opSem own st m e H = some (v, H')) (hE : ERel ρ old w e a.tmps) (hH : HRel B ρ old w H) (hB : B ≤ w.heap.size) (hst : ¬ old st) : Does P B own.d H ρ old w st a.eval o v H' := by
  simp only [hop, compOp] at hm
  split at hm <;> first | (cases hm; done) | skip
  rename_i el hu
  split at hm <;> first | (cases hm; done) | skip
  rename_i z by_ zv x' y' h1 h2 h3 h4 h5
  split at hm <;> first | (cases hm; done) | skip
  rename_i zs hzs
  split at hm <;> first | (cases hm; done) | skip
  rename_i hc
  obtain ⟨c1, c3⟩ := hc
  cases hm
  obtain ⟨zvv, hz1, hz2⟩ := tyZero_run h3 w
  have hsz := tySize_run h1 w
  obtain ⟨ti, hti, hby⟩ := tyBytes_run h2 w
  have hz0 : RelL ρ old w zs zvv.cells.toList := by rw [hz2]; exact absL_rel hzs
  have hzl : zs.length = z := by rw [absL_length hzs]; exact c3
  have hx := opd_rel hE h4
  have hy := opd_rel hE h5
  simp only [opSem] at h
  split at h <;> first | (cases h; done) | skip
  rename_i l c hl hcc
  rw [hl] at hx
  rw [hcc] at hy
  split at h
  · rename_i hb
    obtain ⟨b1, b2, b3, b4⟩ := hb
    cases h
    have hx := rel_v hx
    have hy := rel_v hy
    obtain ⟨ln, rfl⟩ := Int.eq_ofNat_of_zero_le b1
    obtain ⟨cn, rfl⟩ := Int.eq_ofNat_of_zero_le (Int.le_trans b1 b2)
    simp only [Int.toNat_natCast] at *
    unfold most at b3 b4
    have hrep := zeros_rel hz0 cn
    rw [hzl] at hrep
    have hrun : (Instr.makeSlice t (.int .i64 (ln : Int)) (.int .i64 (cn : Int))).run P w = .ok (.slice (some ⟨w.heap.size, 0, none⟩) ln cn) (w.alloc (.cells ((Array.range (cn * z)).map (zvv.cells[· % zvv.cells.size]!)) el (0, 0))) := by
      have wl : IntKind.i64.wrap (ln : Int) = ln := wrap_i64 (by omega) (by omega)
      have wc : IntKind.i64.wrap (cn : Int) = cn := wrap_i64 (by omega) (by omega)
      have ht : (typeInfo el).run P w = .ok ti w := by simp [typeInfo, hti]
      have hbig : ¬ ((ti.bytes : Int) * (cn : Int) > 2 ^ 48) := by
        rw [hby]
        have : ((by_ : Int) * (cn : Int)) = ((cn * by_ : Nat) : Int) := by rw [Nat.mul_comm]; simp
        rw [this]; omega
      unfold Instr.makeSlice
      simp only [Sem.run_bind, run_underlying hu, Result.andThen_ok, asInt, asIntOf, pure_bind, Sem.run_pure, ht, wl, wc]
      rw [if_neg (by
        intro hbad
        simp only [Bool.or_eq_true, decide_eq_true_eq] at hbad
        rcases hbad with ((q | q) | q) | q
        · omega
        · exact hbig q
        · omega
        · omega)]
      simp only [pure_bind, Sem.run_bind, run_askRoom, Result.andThen_ok, hsz, Int.toNat_natCast]
      by_cases h0 : cn * z = 0
      · simp only [h0, if_true, pure_bind, Sem.run_bind, newRow, run_newObj_alloc, Result.andThen_ok, Sem.run_pure]
        rw [show Array.range 0 = #[] from rfl, Array.map_empty, Array.map_empty]
      · rw [if_neg h0]
        simp only [pure_bind, bind_assoc, Sem.run_bind, hz1, newRow, run_newObj_alloc, Result.andThen_ok, Sem.run_pure]
    refine Does.fresh (u := .slice (some ⟨w.heap.size, 0, none⟩) ln cn) hH hB hst own ⟨st, List.replicate ln zs, z, leafL zv⟩ rfl ((Array.range (cn * z)).map (zvv.cells[· % zvv.cells.size]!)) el (w1 := w) ⟨rfl, rfl, rfl, rfl⟩ ?_ ?_ ?_
    · simp only [execOp, hop, Sem.run_bind, hx, hy, hrun, Result.andThen_ok, Sem.run_pure]
    · have big : CellsRel (RelV ρ old w) ⟨st, List.replicate cn zs, z, leafL zv⟩ ((Array.range (cn * z)).map (zvv.cells[· % zvv.cells.size]!)) := by
        refine CellsRel.of_flat (allLen_rep z cn zs hzl) hrep (fun j u hu => by rw [← Array.getElem?_toList]; exact hu) fun hf => ?_
        have : ∀ n, dryEls (List.replicate n zs) = true := by
          intro n
          induction n with
          | zero => rfl
          | succ n ih => simp [List.replicate_succ, dryEls, ih, leafL_cl hzs hf]
        exact this cn
      intro i cs hi
      have hi' : (List.replicate cn zs)[i]? = some cs := by
        simp only [List.getElem?_replicate] at hi ⊢
        split at hi
        · rw [if_pos (by omega)]; exact hi
        · cases hi
      exact big i cs hi'
    · intro ρ' old' w' g1 g2 g3
      simp only [RelV]
      refine ⟨g2, _, cn, rfl, by omega, fun hf => by simp at hf; omega, fun b z' hb => ?_⟩
      rw [g1] at hb; cases hb
      exact ⟨rfl, fun _ => by simp, el, _, g3, by simp⟩
  · cases h

/-! ### what a slice reads -/
theorem RelCells.append_at {b : Nat} : ∀ {o : Nat} {xs ys : List AV}, CellsAt (RelV ρ old w) w b o xs → CellsAt (RelV ρ old w) w b (o + xs.length) ys → CellsAt (RelV ρ old w) w b o (xs ++ ys) := by
  intro o xs ys h1 h2 j v hv
  by_cases hj : j < xs.length
  · rw [List.getElem?_append_left hj] at hv; exact h1 j v hv
  · rw [List.getElem?_append_right (by omega)] at hv
    obtain ⟨u, q1, q2⟩ := h2 _ v hv
    exact ⟨u, by rw [show o + j = o + xs.length + (j - xs.length) by omega]; exact q1, q2⟩
theorem RelEls.flat_at {b z : Nat} : ∀ {o : Nat} {els : List (List AV)}, RelEls ρ old w b o z els → CellsAt (RelV ρ old w) w b o (flat els)
  | o, [], h => fun j v hv => by simp [flat] at hv
  | o, c :: r, h => by
    simp only [RelEls] at h
    simp only [flat]
    exact RelCells.append_at h.2.1.at (by rw [h.1]; exact RelEls.flat_at h.2.2)
theorem RelEls.allLen {b z : Nat} : ∀ {o : Nat} {els : List (List AV)}, RelEls ρ old w b o z els → allLen z els
  | o, [], h => fun e he => by simp at he
  | o, c :: r, h => by
    simp only [RelEls] at h
    intro e he
    rcases List.mem_cons.1 he with rfl | he
    · exact h.1
    · exact RelEls.allLen h.2.2 e he
theorem flat_row {b : Nat} {R : AV → Value → Prop} {z : Nat} : ∀ (els : List (List AV)) (k : Nat), (∀ i cs, els[i]? = some cs → cs.length = z ∧ CellsAt R w b ((k + i) * z) cs) → CellsAt R w b (k * z) (flat els)
  | [], k, _ => fun j v hv => by simp [flat] at hv
  | c :: r, k, h => by
    have h0 := h 0 c rfl
    have ih := flat_row r (k + 1) fun i cs hi => by
      have := h (i + 1) cs (by simpa using hi)
      rwa [show k + (i + 1) = k + 1 + i by omega] at this
    intro j v hv
    simp only [flat] at hv
    by_cases hj : j < c.length
    · rw [List.getElem?_append_left hj] at hv
      have := h0.2 j v hv
      simpa using this
    · rw [List.getElem?_append_right (by omega)] at hv
      obtain ⟨u, q1, q2⟩ := ih _ v hv
      exact ⟨u, by rw [show k * z + j = (k + 1) * z + (j - c.length) by rw [Nat.add_mul, h0.1]; omega]; exact q1, q2⟩
theorem lens_all {z : Nat} {l : List (List AV)} (h : lens z l = true) : allLen z l ∧ allCell (flat l) = true := by
  have app : ∀ (a b : List AV), allCell a = true → allCell b = true → allCell (a ++ b) = true := by
    intro a
    induction a with
    | nil => intro b _ h; simpa using h
    | cons c r ih =>
      intro b h1 h2
      simp only [allCell, Bool.and_eq_true] at h1
      simp only [List.cons_append, allCell, Bool.and_eq_true]
      exact ⟨h1.1, ih b h1.2 h2⟩
  induction l with
  | nil => exact ⟨fun e he => by simp at he, rfl⟩
  | cons c r ih =>
    simp only [lens, Bool.and_eq_true, decide_eq_true_eq] at h
    obtain ⟨h1, h2⟩ := ih h.2
    refine ⟨fun e he => ?_, app _ _ h.1.2 h2⟩
    rcases List.mem_cons.1 he with rfl | he
    · exact h.1.1
    · exact h1 e he
theorem src_rel {x : AV} {u : Value} {new : List (List AV)} {z : Nat} {tx el' : TypeId} (hk : P.underlying tx = some (.slice el')) (hH : HRel B ρ old w H) (hr : RelV ρ old w x u) (h : srcEls H x = some new) (hl : lens z new = true) :
    ∃ us, RelL ρ old w (flat new) us ∧ us.length = new.length * z ∧ Src P z tx u new.length us w := by
  obtain ⟨hal, hcell⟩ := lens_all hl
  have fin : ∀ (b oo cap : Nat), CellsAt (RelV ρ old w) w b oo (flat new) → u = .slice (some ⟨b, oo, none⟩) new.length cap → ∃ us, RelL ρ old w (flat new) us ∧ us.length = new.length * z ∧ Src P z tx u new.length us w := by
    intro b oo cap hc hu
    obtain ⟨us, l1, l2, l3⟩ := hc.values
    have l4 : us.length = new.length * z := by rw [l1, flat_length hal]
    refine ⟨us, l2, l4, ?_⟩
    rw [hu]
    exact Src.ofSlice w hk _ _ _ _ l4 (fun j y hy => by rw [add_at]; exact l3 j y hy) (cells_one hcell l2)
  have fin0 : ∀ (p : Option Addr) (cap : Nat), new = [] → u = .slice p 0 cap → ∃ us, RelL ρ old w (flat new) us ∧ us.length = new.length * z ∧ Src P z tx u new.length us w := by
    rintro p cap rfl hu
    refine ⟨[], by simp only [flat, RelL], by simp, ?_⟩
    rw [hu]
    cases p with
    | none => exact Src.ofNil w hk cap
    | some p => exact Src.ofSlice w hk p 0 cap [] (by simp) (by simp) (by simp)
  unfold srcEls at h
  split at h <;> first | (cases h; done) | skip
  · cases h
    exact fin0 none 0 rfl (by simpa only [RelV] using hr)
  · rename_i z' els
    cases h
    simp only [RelV] at hr
    obtain ⟨p, cap, hu, hlc, hsp, hels⟩ := hr
    cases hne : new with
    | nil => subst hne; exact (by simpa using fin0 (some p) cap rfl (by simpa using hu))
    | cons c r =>
      rw [← hne]
      have hz : z' = z := by
        have h1 := hels.allLen c (by rw [hne]; simp)
        have h2 := hal c (by rw [hne]; simp)
        omega
      subst hz
      have hps : p = ⟨p.block, p.off, none⟩ := by have := hsp (by rw [hne]; simp); cases p; simp_all
      exact fin p.block p.off cap hels.flat_at (by rw [hu]; rw [← hps])
  · rename_i s st' zz off len full
    split at h <;> first | (cases h; done) | skip
    rename_i blk hrow
    split at h <;> first | (cases h; done) | skip
    rename_i hle
    cases h
    obtain ⟨b, hρ, hBb, hs, hg, c, ty, hb, hc⟩ := hH.at hrow
    simp only [RelV] at hr
    obtain ⟨ho, p, cap, hu, hlc, hfull, hp⟩ := hr
    obtain ⟨q1, q2, _⟩ := hp _ _ hρ
    subst q1
    have hnl : ((blk.els.drop off).take len).length = len := by simp; omega
    by_cases hl0 : len = 0
    · subst hl0
      exact (by simpa using fin0 (some p) cap (by simp) hu)
    · have hz : blk.z = z := by
        have hm : ((blk.els.drop off).take len)[0]? = some blk.els[off] := by
          simp [List.getElem?_take, List.getElem?_drop, show 0 < len by omega]
        have h1 := hal _ (List.mem_of_getElem? hm)
        have h2 := (hc off blk.els[off] (by simp)).1
        omega
      have hca : CellsAt (RelV ρ old w) w b (off * blk.z) (flat ((blk.els.drop off).take len)) := by
        refine flat_row _ off fun i cs hi => ?_
        rw [List.getElem?_take] at hi
        split at hi
        · rw [List.getElem?_drop] at hi
          exact ⟨(hc _ cs hi).1, hc.at hb hi⟩
        · cases hi
      refine fin b (off * blk.z) cap hca ?_
      rw [hnl, hu, q2 (by omega)]

theorem grow_le (need old : Nat) : ∀ (n c : Nat), c < need → 256 ≤ c → Builtin.growBy need n c ≤ 2 * need
  | 0, c, h, _ => by simp only [Builtin.growBy]; omega
  | n + 1, c, h, h2 => by
    simp only [Builtin.growBy]
    split
    · omega
    · by_cases hq : c + (c + 768) / 4 < need
      · exact grow_le need old n _ hq (by omega)
      · cases n with
        | zero => simp only [Builtin.growBy]; omega
        | succ n => simp only [Builtin.growBy]; rw [if_pos (by omega)]; omega
theorem next_le {need oldc : Nat} (h : oldc < need) : Builtin.nextslicecap need oldc ≤ 2 * need := by
  unfold Builtin.nextslicecap
  split
  · omega
  · split
    · omega
    · exact grow_le need oldc 4 oldc h (by omega)

end
end Go.Proofs.Ytnccnmeecngopaa.Fw
