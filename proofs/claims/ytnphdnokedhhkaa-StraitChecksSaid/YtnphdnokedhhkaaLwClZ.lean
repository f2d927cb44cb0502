/- slices.Clone of an empty list, nil or not, by hand (whether it is nil is not the evaluator's to say). -/
import Derived.Test.YtnphdnokedhhkaaLwTuB
import Derived.Shelf.RegionOpenPlain
import Derived.WalkKit
import Derived.Deep.LoopGhost
import Derived.Lib.Walk
import Derived.Lib.SliceRun
set_option linter.unusedSimpArgs false
set_option linter.unusedVariables false
namespace Go.Proofs.Ytnphdnokedhhkaa.Fw
open Go Go.RowKit Go.Lib Go.Proofs.Ytnphdnokedhhkaa
/-- of an empty list, whether nil or not -/
theorem specPost_void {w w' : World} {e : Ending} {a : Option Addr} (he : e = .returned (.slice a 0 0)) (hb : Below w.heap.size w w') : SpecPost w (.own 1 [] true) e w' := by
  refine ⟨.slc ⟨0, 0, 0⟩ [0] 1 0 0 false, [(⟨0, 0, 0⟩, ⟨[0], [], 1, true⟩)], ⟨_, ⟨fun _ => none, (ρ0 fun _ => False).av, fun s st => s = ⟨0, 0, 0⟩ ∧ st = [0]⟩, fun q => q = [0], he, ?_, ?_, ?_, hb, fun q hq => .inr trivial, rfl, fun s hs _ => absurd hs (Nat.not_lt_zero _)⟩, by rfl, pkT_of (by rfl)⟩
  · refine Keep.mk (fun b hlt hn => ⟨hb.block b hlt, fun h => ?_⟩) (fun s b z st h _ => by cases h) (fun st h => False.elim h) (fun s b z st h _ => by cases h) (fun s st h => False.elim h)
    rcases h with h | ⟨s, z, st, h⟩
    · exact hn (.inl h)
    · cases h
  · exact ⟨rfl, .inl ⟨⟨rfl, rfl⟩, ⟨a, rfl⟩, rfl⟩⟩
  · refine HRel.mk (fun s blk hg => ?_) (fun s st h => h.2) (fun s b z st h => by cases h) (fun s s' b z z' st st' h _ => by cases h)
    have hg : (if (⟨0, 0, 0⟩ : Site) = s then some (⟨[0], [], 1, true⟩ : Blk) else none) = some blk := hg
    split at hg
    · rename_i h; subst h; cases hg; exact .inl ⟨⟨rfl, rfl⟩, rfl, rfl⟩
    · cases hg
set_option maxHeartbeats 2000000 in
set_option maxRecDepth 100000 in
theorem clone_zero (a : Addr) (c : Nat) (w : World) :
    Calls Try.prog 63 #[.slice (some a) 0 c] w fun e w' => e = .returned (.slice (some ⟨w.heap.size, 0, none⟩) 0 0) ∧ Below w.heap.size w w' := by
  have t26 : Try.prog.underlying 26 = some (.slice 37) := by kernel_rfl
  have mixed : Try.prog.follows .mixedOrders = true := by kernel_rfl
  have q26 : ∀ (w : World) (a : Option Addr) (n c n' c' : Nat), (binOp .eql 26 (.slice a n c) (.slice none n' c')).run Try.prog w = .ok (.bool a.isNone) w := fun w a n c n' c' => Lib.run_eql_slice_nil w _ _ a n c n' c' t26
  have u26 : ∀ w, Sem.run Try.prog (underlying 26) w = .ok (TypeDesc.slice 37) w := run_underlying t26
  obtain ⟨i0, hi, hz0, hz1, hz2⟩ : ∃ i0, Try.prog.info? 37 = some i0 ∧ i0.zero = some (.complex .f64 0 0) ∧ i0.size = 1 ∧ i0.bytes = 16 := ⟨_, rfl, by kernel_rfl, by kernel_rfl, by kernel_rfl⟩
  go_enter Try.func63, Try.ntmps63
  go_wp2
  go_ret
  exact ⟨rfl, (Below.refl _ w).alloc (Nat.le_refl _) _⟩
set_option maxHeartbeats 2000000 in
set_option maxRecDepth 100000 in
theorem clone_none (n c : Nat) (w : World) :
    Calls Try.prog 63 #[.slice none n c] w fun e w' => e = .returned (.slice none 0 0) ∧ w' = w := by
  have t26 : Try.prog.underlying 26 = some (.slice 37) := by kernel_rfl
  have mixed : Try.prog.follows .mixedOrders = true := by kernel_rfl
  have q26 : ∀ (w : World) (a : Option Addr) (n c n' c' : Nat), (binOp .eql 26 (.slice a n c) (.slice none n' c')).run Try.prog w = .ok (.bool a.isNone) w := fun w a n c n' c' => Lib.run_eql_slice_nil w _ _ a n c n' c' t26
  go_enter Try.func63, Try.ntmps63
  go_wp2
  go_ret
  exact ⟨rfl, rfl⟩
theorem clone_den {L n : Nat} {us : List (Nat × Nat)} (h : us ≠ []) (hm : us.length * 16 ≤ most) : den ⟨fnOf, specQ, L⟩ (n+1) 63 [.lst 1 (us.map celC)] = some (.own 1 (us.map celC) true) := by
  have h0 : Con.holds ⟨fnOf, specQ, L⟩ (runF ⟨fnOf, specQ, L⟩ n) (.any 0 [2] (MO.mk (some 4) (MOp.bin BinOp.eql EqK.slice (Opd.t 3) (Opd.k .nils)) none []) [(3, (.lst 1 (List.map celC us)))] [] (.v (.bool false)) []) := by
    cases us with
    | nil => exact absurd rfl h
    | cons x r => rfl
  have hd : denD ⟨fnOf, specQ, L⟩ n 63 [.lst 1 (us.map celC)] [((some 4), (Dec.any (.v (.bool false)) [])), ((some 7), Dec.cat)] = some ((.own 1 (List.take (List.length (List.map celC us)) (List.map celC us)) true), [(.any 0 [2] (MO.mk (some 4) (MOp.bin BinOp.eql EqK.slice (Opd.t 3) (Opd.k .nils)) none []) [(3, (.lst 1 (List.map celC us)))] [] (.v (.bool false)) []), (.st [3] [3]), (.cat 1 16 true (List.map celC us)), (.st [5] [5]), (.le (List.length (List.map celC us)) (List.length (List.map celC us)))]) := by kernel_rfl
  have := denD_sound hd ⟨h0, rfl, catC_ok hm, rfl, Nat.le_refl _, trivial⟩
  rw [this, tkMap map_len]
def cloneNE : List AV → Option AV
  | [.lst 1 els] => (unL unC els).bind fun us => if us ≠ [] ∧ us.length * 16 ≤ most then some (.own 1 (us.map celC) true) else none
  | _ => none
theorem cloneNE_is {avs : List AV} {r : AV} (h : cloneNE avs = some r) : ∃ us, avs = [.lst 1 (us.map celC)] ∧ us ≠ [] ∧ us.length * 16 ≤ most ∧ r = .own 1 (us.map celC) true := by
  unfold cloneNE at h
  split at h
  · rename_i els
    rw [Option.bind_eq_some_iff] at h
    obtain ⟨us, h1, h2⟩ := h
    split at h2
    · rename_i hm
      cases h2
      have := unL_inv (enc := celC) unC_is h1
      subst this
      exact ⟨us, rfl, hm.1, hm.2, rfl⟩
    · cases h2
  · cases h
def cloneSem : List AV → Option AV
  | [.lst 1 []] => some (.own 1 [] true)
  | avs => cloneNE avs
theorem cloneSem_at {us : List (Nat × Nat)} (hm : us.length * 16 ≤ most) : cloneSem [.lst 1 (us.map celC)] = some (.own 1 (us.map celC) true) := by
  cases us with
  | nil => rfl
  | cons x r =>
    show (unL unC ((x :: r).map celC)).bind _ = _
    rw [unC_L]
    show (if _ then _ else _) = _
    rw [if_pos ⟨by simp, hm⟩]
def newN : FuncId → Option (List AV → Option AV)
  | 63 => some cloneNE
  | _ => none
theorem spec_n : SpecOk Try.prog ⟨fnOf, fun f => match newN f with | some g => some g | none => specQ f, 0⟩ :=
  spec_adds spec_q (fun L => fnsOk _ _) follows newN fun f g h => by
    unfold newN at h
    split at h
    · cases h
      refine ⟨⟨_, Try.func63, ne_of_beq_false (by kernel_rfl), by kernel_rfl⟩, fun avs r h => ?_⟩
      obtain ⟨us, rfl, h1, h2, rfl⟩ := cloneNE_is h
      exact told (P := ⟨fnOf, specQ, 0⟩) ⟨0, 1, clone_den h1 h2⟩
    · cases h
def newZ : FuncId → Option (List AV → Option AV)
  | 63 => some cloneSem
  | _ => none
/-- Clone, too: of an empty list, nil or not, as well -/
def specZ : FuncId → Option (List AV → Option AV) := fun f => match newZ f with | some g => some g | none => specQ f
theorem spec_z : SpecOk Try.prog ⟨fnOf, specZ, 0⟩ := by
  intro f g h
  have h : (match newZ f with | some g => some g | none => specQ f) = some g := h
  unfold newZ at h
  split at h
  · rename_i g' hq
    split at hq
    · cases hq
      cases h
      obtain ⟨hf, hc⟩ := spec_n 63 cloneNE rfl
      refine ⟨hf, fun avs r hr w cargs hrel => ?_⟩
      unfold cloneSem at hr
      split at hr
      · cases hr
        obtain ⟨us⟩ := cargs
        obtain ⟨u, rfl, hu⟩ := relL_one hrel
        rcases hu with ⟨_, rfl⟩ | ⟨p, cap, rfl, _⟩
        · exact (clone_none 0 0 w).mono fun e w' ⟨h1, h2⟩ => specPost_void h1 (by rw [h2]; exact Below.refl _ _)
        · exact (clone_zero p cap w).mono fun e w' ⟨h1, h2⟩ => specPost_void h1 h2
      · exact hc avs r hr w cargs hrel
    · cases hq
  · exact spec_q f g h
end Go.Proofs.Ytnphdnokedhhkaa.Fw
