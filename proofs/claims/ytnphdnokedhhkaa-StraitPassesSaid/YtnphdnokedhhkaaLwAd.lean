/- Several functions spoken for at one level; loops by an invariant; lists. -/
import Derived.Test.YtnphdnokedhhkaaFwY
import Derived.Test.YtnphdnokedhhkaaFwAbs
import Derived.Test.YtnphdnokedhhkaaFwW
import Derived.Test.YtnphdnokedhhkaaFwGr
import Derived.KernelRfl
set_option maxRecDepth 100000
set_option maxHeartbeats 4000000
set_option linter.unusedSimpArgs false
set_option linter.unusedVariables false
namespace Go.Proofs.Ytnphdnokedhhkaa.Fw
open Go Go.RowKit
/-- a loop, by what holds at each round's head; what it leaves -/
theorem loopJ {P : Prog} {C : Caller} {L d : Nat} {live π : List Nat} {m : MC} {A : St} (R : Nat → St → Prop) (Q : St → Prop) (n : Nat) {x : Ex} (hx : x ≠ .nrm) (hL : P.L = L + 1) (hn : n ≤ L) (h0 : R 0 A)
    (h : ∀ i s, i < n → R i s → ∃ s', rnd d live (bodyOf P C d m (i :: π) s) = some (.nrm, s') ∧ R (i + 1) s')
    (he : ∀ s, R n s → ∃ s', rnd d live (bodyOf P C d m (n :: π) s) = some (x, s') ∧ Q s') : ∃ s', Con.holds P C (.loop d live m π A x s') ∧ Q s' := by
  obtain ⟨s0, h1, s', h2, h3⟩ := LP_inv (body := bodyOf P C d m) (d := d) (live := live) (π := π) R (fun s0 => ∃ s', outP d live x s0 = s' ∧ Q s') hx n hn h0
    (fun i s _ hi hR => by
      obtain ⟨s', h1, h2⟩ := h i s (by omega) hR
      exact ⟨s', rnd_nxt h1, h2⟩)
    (fun s hR => by
      rw [Nat.zero_add] at hR ⊢
      obtain ⟨s', h1, h2⟩ := he s hR
      obtain ⟨s0, h3, h4⟩ := rnd_out h1 hx
      exact ⟨s0, h3, s', h4, h2⟩)
  exact ⟨s', ⟨L, s0, hL, h1, by rw [h2], by rw [h2]⟩, h3⟩
theorem toldZ {P : Prog} {f : FuncId} {avs : List AV} {r r1 : AV} {L k : Nat} (h : den ⟨P.fn, P.spec, L⟩ k f avs = some r1) (hw : WkT r1 r) : ∃ avs1 L k r1, All2 WiA avs avs1 ∧ den ⟨P.fn, P.spec, L⟩ k f avs1 = some r1 ∧ WkT r1 r :=
  ⟨avs, L, k, r1, all2_refl WiA.refl _, h, hw⟩
theorem tkMap {α : Type} {f : α → List AV} {xs : List α} {m : Nat} (h : m = xs.length) : List.take m (xs.map f) = xs.map f := by
  rw [List.take_of_length_le]; rw [map_len, h]; exact Nat.le_refl _
theorem cutM {α : Type} {f : α → List AV} {zs : List α} {m : Nat} : cutX (zs.map f) 0 m = (zs.take m).map f := by
  show List.take _ _ = _
  rw [List.map_take]
theorem sl_zero {P : Prog} {C : Caller} {z b off len : Nat} {s : Site} {st : List Nat} {full : Bool} (h2 : b ≤ len) : Con.holds P C (.sl (some z) (.slc s st z off len full) none (some (.int .i64 b)) none (.slc s st z off b (full && decide (b = len)))) := by
  show sliceSem _ _ _ _ _ = _
  simp only [sliceSem, bnd]
  simp [h2]
theorem getD_sets {α : Type} {zs : List α} {i m : Nat} {z d : α} (h : i < zs.length) : (zs.set i z).getD m d = if i = m then z else zs.getD m d := by
  rw [List.getD_eq_getElem?_getD, List.getElem?_set]
  split
  · rename_i e; subst e; rfl
  · rw [← List.getD_eq_getElem?_getD]
/-- a list by its places -/
def tab {α : Type} (f : Nat → α) (n : Nat) : List α := (List.range n).map f
theorem tab_up {α : Type} {f : Nat → α} {i : Nat} : tab f (i + 1) = tab f i ++ [f i] := by unfold tab; rw [List.range_succ, List.map_append]; rfl
theorem tab_len {α : Type} {f : Nat → α} {i : Nat} : (tab f i).length = i := by unfold tab; rw [List.length_map, List.length_range]
theorem tab_at {α : Type} {f : Nat → α} {n i : Nat} {d : α} (h : i < n) : (tab f n).getD i d = f i := by
  unfold tab
  rw [List.getD_eq_getElem?_getD, List.getElem?_map, List.getElem?_range h]; rfl
/-- a list of numbers, nil or not -/
theorem wi_of {α : Type} {f : α → List AV} {z : Nat} {a : AV} {B : Nat} (h : a = AV.nils ∨ ∃ els : List (List AV), a = AV.lst z els ∧ els.length * B ≤ reachBytes ∧ ∀ e ∈ els, ∃ x, e = f x) :
    ∃ xs : List α, Wi1 a (.lst z (xs.map f)) ∧ xs.length * B ≤ reachBytes := by
  rcases h with rfl | ⟨els, rfl, hl, he⟩
  · exact ⟨[], .inr ⟨rfl, z, rfl⟩, by rw [List.length_nil, Nat.zero_mul]; exact Nat.zero_le _⟩
  · obtain ⟨xs, rfl⟩ := all_map (f := f) he
    rw [map_len] at hl
    exact ⟨xs, .refl _, hl⟩
end Go.Proofs.Ytnphdnokedhhkaa.Fw
