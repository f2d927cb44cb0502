/- plain and Rows: both say whether all points are plain; spoken for. -/
import Derived.Test.YtnphdnokedhhkaaLwPaC
set_option maxRecDepth 100000
set_option maxHeartbeats 4000000
set_option linter.unusedSimpArgs false
set_option linter.unusedVariables false
namespace Go.Proofs.Ytnphdnokedhhkaa.Fw
open Go Go.RowKit
def rowF (xs : List (Nat × Nat)) : Bool := (List.range xs.length).all fun i => ptOK (xs.getD i (0, 0))
section
variable {L n : Nat} {xs : List (Nat × Nat)}
theorem rowF_is : rowF xs = true ↔ ∀ i, i < xs.length → ptOK (xs.getD i (0, 0)) = true := by
  unfold rowF
  simp only [List.all_eq_true, List.mem_range]
theorem rowF_bad {k : Nat} (hk : k < xs.length) (h : ptOK (xs.getD k (0, 0)) = false) : rowF xs = false := by
  cases hq : rowF xs with
  | false => rfl
  | true =>
    have := rowF_is.1 hq k hk
    rw [h] at this; cases this
theorem plain_den (hL : xs.length ≤ L) (hm : shortL xs) : den ⟨fnOf, specW, L+1⟩ (n+3) 44 [.lst 1 (xs.map celC)] = some (.v (.bool (rowF xs))) := by
  have hl : (xs.map celC).length = xs.length := map_len
  unfold shortL at hm
  have hstep : ∀ k, k ≤ xs.length → (∀ i, i < k → ptOK (xs.getD i (0, 0)) = true) → ∀ i, i < k →
      seeZ 0 [0, 1, 7, 8] m73.res (bodyOf ⟨fnOf, specW, L+1⟩ (runF ⟨fnOf, specW, L+1⟩ n) 0 m73b0 (i :: [4]) (ixSt xs i)) = some (.go .nrm (ixSt xs (i + 1))) := fun k hk h i hi => by
    have := @ixr_1 (L+1) n xs 0 0 i [4] (xs.getD i (0, 0)) (by rw [hl]; exact dLt (by omega)) (elD_map (f := celC) (by omega)) (by show (!ptOK (xs.getD i (0, 0))) = false; rw [h i hi]; rfl)
    rw [wrap_id (n := (i : Int) + 1) (by omega)] at this
    exact this
  rcases firstI (fun i => ptOK (xs.getD i (0, 0))) xs.length with h | ⟨k, hk, h1, h2⟩
  · have hlp : Con.holds ⟨fnOf, specW, L+1⟩ (runF ⟨fnOf, specW, L+1⟩ n) (.loop 0 [0, 1, 7, 8] m73b0 [4] (ixSt xs 0) (.exit 0) (ixSt xs xs.length)) :=
      loopX (res := m73.res) (fun i => ixSt xs i) xs.length rfl hL (hstep _ (Nat.le_refl _) h) (@ixr_2 (L+1) n xs 0 0 xs.length [4] (by rw [hl]; exact dNlt)) (by simp)
    have h3 := @con_0 (L+1) (n+1) xs 0 0 0 [] (-1) (call_den (@ixn_0 (L+1) n xs 0 0 xs.length [] hlp))
    have h4 := @pla_0 (L+1) (n+2) xs 0 0 0 [] _ (call_den h3)
    rw [h4, rowF_is.2 h]
    rfl
  · have hbad : seeZ 0 [0, 1, 7, 8] m73.res (bodyOf ⟨fnOf, specW, L+1⟩ (runF ⟨fnOf, specW, L+1⟩ n) 0 m73b0 (k :: [4]) (ixSt xs k)) = some (.out (.v (.int .i64 (k : Int)))) :=
      @ixr_0 (L+1) n xs 0 0 k [4] (xs.getD k (0, 0)) (by rw [hl]; exact dLt hk) (elD_map (f := celC) hk) (by show (!ptOK (xs.getD k (0, 0))) = true; rw [h2]; rfl)
    obtain ⟨s1, hd, ho⟩ := loopZ (P := ⟨fnOf, specW, L+1⟩) (C := runF ⟨fnOf, specW, L+1⟩ n) (π := [4]) (fun i => ixSt xs i) k rfl (by omega) (hstep k (by omega) h1) hbad
    have h3 := @con_0 (L+1) (n+1) xs 0 0 0 [] _ (call_den (ixt_0 hd ho))
    have h4 := @pla_0 (L+1) (n+2) xs 0 0 0 [] _ (call_den h3)
    rw [h4, rowF_bad hk h2, decide_eq_true (show (k : Int) ≥ 0 by omega)]
    rfl
theorem rows_den (hL : xs.length ≤ L) (hm : shortL xs) : den ⟨fnOf, specK, L+1⟩ (n+1) 45 [.lst 1 (xs.map celC)] = some (.v (.bool (rowF xs))) := by
  have hl : (xs.map celC).length = xs.length := map_len
  unfold shortL at hm
  have hstep : ∀ k, k ≤ xs.length → (∀ i, i < k → ptOK (xs.getD i (0, 0)) = true) → ∀ i, i < k →
      seeZ 0 [0, 3] m45.res (bodyOf ⟨fnOf, specK, L+1⟩ (runF ⟨fnOf, specK, L+1⟩ n) 0 m45b0 (i :: [2]) (roSt2 xs i)) = some (.go .nrm (roSt2 xs (i + 1))) := fun k hk h i hi => by
    have hp := h i hi
    unfold ptOK at hp
    rw [Bool.and_eq_true] at hp
    have he := elD_map (P := ⟨fnOf, specK, L+1⟩) (C := runF ⟨fnOf, specK, L+1⟩ n) (f := celC) (d := (0, 0)) (show i < xs.length by omega)
    have := @ror2_2 (L+1) n xs 0 0 i [2] (xs.getD i (0, 0)) (xs.getD i (0, 0)) (by rw [hl]; exact dLt (by omega)) he (by rw [hp.1]; rfl) he (by rw [hp.2]; rfl)
    rw [wrap_id (n := (i : Int) + 1) (by omega)] at this
    exact this
  rcases firstI (fun i => ptOK (xs.getD i (0, 0))) xs.length with h | ⟨k, hk, h1, h2⟩
  · have hlp : Con.holds ⟨fnOf, specK, L+1⟩ (runF ⟨fnOf, specK, L+1⟩ n) (.loop 0 [0, 3] m45b0 [2] (roSt2 xs 0) (.exit 0) (roSt2 xs xs.length)) :=
      loopX (res := m45.res) (fun i => roSt2 xs i) xs.length rfl hL (hstep _ (Nat.le_refl _) h) (@ror2_3 (L+1) n xs 0 0 xs.length [2] (by rw [hl]; exact dNlt)) (by simp)
    rw [@ron_0 (L+1) n xs 0 0 xs.length [] hlp, rowF_is.2 h]
  · have hbad : seeZ 0 [0, 3] m45.res (bodyOf ⟨fnOf, specK, L+1⟩ (runF ⟨fnOf, specK, L+1⟩ n) 0 m45b0 (k :: [2]) (roSt2 xs k)) = some (.out (.v (.bool false))) := by
      have ha : decide ((k : Int) < ((xs.map celC).length : Int)) = true := by rw [hl]; exact dLt hk
      have he := elD_map (P := ⟨fnOf, specK, L+1⟩) (C := runF ⟨fnOf, specK, L+1⟩ n) (f := celC) (d := (0, 0)) hk
      unfold ptOK at h2
      cases hq : plainF (xs.getD k (0, 0)).1 4638707616191610880 with
      | false => exact @ror2_0 (L+1) n xs 0 0 k [2] (xs.getD k (0, 0)) ha he (by rw [hq]; rfl)
      | true =>
        rw [hq, Bool.true_and] at h2
        exact @ror2_1 (L+1) n xs 0 0 k [2] (xs.getD k (0, 0)) (xs.getD k (0, 0)) ha he (by rw [hq]; rfl) he (by rw [h2]; rfl)
    obtain ⟨s1, hd, ho⟩ := loopZ (P := ⟨fnOf, specK, L+1⟩) (C := runF ⟨fnOf, specK, L+1⟩ n) (π := [2]) (fun i => roSt2 xs i) k rfl (by omega) (hstep k (by omega) h1) hbad
    rw [rowF_bad hk h2]
    exact rot_0 hd ho
end
def rowSem : List AV → Option AV
  | [.lst 1 els] => (unL unC els).bind fun xs => if shortL xs then some (.v (.bool (rowF xs))) else none
  | _ => none
theorem rowSem_is {avs : List AV} {r : AV} (h : rowSem avs = some r) : ∃ xs, avs = [.lst 1 (xs.map celC)] ∧ shortL xs ∧ r = .v (.bool (rowF xs)) := by
  unfold rowSem at h
  split at h
  · rename_i els
    rw [Option.bind_eq_some_iff] at h
    obtain ⟨zs, h1, h2⟩ := h
    split at h2
    · rename_i hm
      cases h2
      have := unL_inv (enc := celC) unC_is h1
      subst this
      exact ⟨zs, rfl, hm, rfl⟩
    · cases h2
  · cases h
theorem rowSem_at {xs : List (Nat × Nat)} (h : shortL xs) : rowSem [.lst 1 (xs.map celC)] = some (.v (.bool (rowF xs))) := by
  simp only [rowSem, unC_L, Option.bind_some, if_pos h]
def newX1 : FuncId → Option (List AV → Option AV)
  | 44 => some rowSem
  | _ => none
def newX2 : FuncId → Option (List AV → Option AV)
  | 45 => some rowSem
  | _ => none
theorem spec_x1 : SpecOk Try.prog ⟨fnOf, fun f => match newX1 f with | some g => some g | none => specW f, 0⟩ :=
  spec_adds spec_w (fun L => fnsOk _ _) follows newX1 fun f g h => by
    unfold newX1 at h
    split at h
    · cases h
      refine ⟨⟨_, Try.func44, ne_of_beq_false (by kernel_rfl), by kernel_rfl⟩, fun avs r h => ?_⟩
      obtain ⟨xs, rfl, hm, rfl⟩ := rowSem_is h
      exact told (P := ⟨fnOf, specW, 0⟩) ⟨xs.length + 1, 3, plain_den (Nat.le_refl _) hm⟩
    · cases h
theorem spec_x2 : SpecOk Try.prog ⟨fnOf, fun f => match newX2 f with | some g => some g | none => specK f, 0⟩ :=
  spec_adds spec_k (fun L => fnsOk _ _) follows newX2 fun f g h => by
    unfold newX2 at h
    split at h
    · cases h
      refine ⟨⟨_, Try.func45, ne_of_beq_false (by kernel_rfl), by kernel_rfl⟩, fun avs r h => ?_⟩
      obtain ⟨xs, rfl, hm, rfl⟩ := rowSem_is h
      exact told (P := ⟨fnOf, specK, 0⟩) ⟨xs.length + 1, 1, rows_den (Nat.le_refl _) hm⟩
    · cases h
def newX : FuncId → Option (List AV → Option AV)
  | 44 => some rowSem
  | 45 => some rowSem
  | _ => none
/-- plain and Rows, too -/
def specX : FuncId → Option (List AV → Option AV) := fun f => match newX f with | some g => some g | none => specK f
theorem spec_x : SpecOk Try.prog ⟨fnOf, specX, 0⟩ := by
  intro f g h
  have h : (match newX f with | some g => some g | none => specK f) = some g := h
  unfold newX at h
  split at h
  · rename_i g' hq
    split at hq
    · cases hq; cases h; exact spec_x1 44 _ rfl
    · cases hq; cases h; exact spec_x2 45 _ rfl
    · cases hq
  · exact spec_k f g h
end Go.Proofs.Ytnphdnokedhhkaa.Fw
