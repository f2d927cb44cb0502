/- Arrive: the program's and the document's answer. | Arrive: the bursts' loops; what the program and the document answer. | Arrive: the program's and the document's answer, spoken for. | Check, plain, Rows spoken for with nil lists, too. | Arrive spoken for (nil lists, too); samples and bursts compared. | What comes through a strait, as whole numbers: a sum over the taps; no program in sight. | Taps' sums and what comes through, bounded; no program in sight. | turned numbers: taps turned by quarters are taps. | turned (the program's and the document's): paths, printed by a program of ours. | turned spoken for, the program's and the document's. | First (the program's and the document's), Turned, Halved, changed: paths, printed by a program of ours. | First: the program's and the document's answer. | what Turned and Halved do to each tap, spoken for. | slices.Clone of an empty list, nil or not, by hand (whether it is nil is not the evaluator's to say). | Turned, Halved, changed, Clone: paths, printed by a program of ours. | Turned and Halved: the program's and the document's answer. | works() of chapter 10, spoken for. | filter, fit, plain, onGrid of chapter 10: paths, printed by a program of ours. | filter, fit, plain, onGrid of chapter 10: what they answer. | The outright statements of chapter 10: what is spoken for. | StraitGrid: paths, printed by a program of ours. | bursts, sameSamples, StraitArrives: paths, printed by a program of ours. | StraitPasses: the paths through the law itself, printed by a program of ours. | StraitPasses: the law's own run. | StraitPasses: the law's whole run. | StraitArrives: bursts, samples alike, the law's own run. | StraitGrid: samples on the grid; the law's whole run. -/
import Derived.Test.YtnphdnokedhhkaaFwY
import Derived.Test.YtnphdnokedhhkaaFwAbs
import Derived.Test.YtnphdnokedhhkaaFwW
import Derived.KernelRfl
import Derived.Shelf.RegionOpenPlain
import Derived.WalkKit
import Derived.Deep.LoopGhost
import Derived.Lib.Walk
import Derived.Lib.SliceRun
import Derived.Test.YtnphdnokedhhkaaLwM1
set_option maxRecDepth 100000
set_option maxHeartbeats 4000000
set_option linter.unusedSimpArgs false
set_option linter.unusedVariables false
set_option exponentiation.threshold 4000
namespace Go.Proofs.Ytnphdnokedhhkaa.Fw
open Go Go.RowKit
abbrev Bu := (Int × Int) × (Nat × Nat) × Bool
abbrev Smp := (Nat × Nat) × Bool
def bd : Bu := ((0, 0), (0, 0), false)
def sd : Smp := ((0, 0), false)
def okBu (b : Bu) : Bool := decide (0 ≤ b.1.1) && decide (0 ≤ b.1.2)
def okBs (bs : List Bu) : Bool := (List.range bs.length).all fun i => okBu (bs.getD i bd)
def okDi (z : Nat × Nat) : Bool := onD z.1 && onD z.2
def okDs (ds : List (Nat × Nat)) : Bool := (List.range ds.length).all fun i => okDi (ds.getD i (0, 0))
theorem okBs_is {bs : List Bu} : okBs bs = true ↔ ∀ i, i < bs.length → okBu (bs.getD i bd) = true := by
  unfold okBs; simp only [List.all_eq_true, List.mem_range]
theorem okDs_is {ds : List (Nat × Nat)} : okDs ds = true ↔ ∀ i, i < ds.length → okDi (ds.getD i (0, 0)) = true := by
  unfold okDs; simp only [List.all_eq_true, List.mem_range]
def arrE (rate delay nn : Int) (ts es xs vs ds : List (Nat × Nat)) (bs : List Bu) : Int :=
  if passE rate delay nn ts es xs vs ≠ 0 then passE rate delay nn ts es xs vs
  else if 65536 < ds.length ∨ 5000 < bs.length then 1
  else if okBs bs = true then (if okDs ds = true then 0 else 7) else 1
/-- a number of the row, disturbed -/
def disF (ds us : List (Nat × Nat)) (m : Nat) : Nat × Nat := if m < ds.length then addP (us.getD m (0, 0)) (ds.getD m (0, 0)) else us.getD m (0, 0)
/-- what a burst leaves -/
def buS (doc : Bool) (b : Bu) : Smp := if b.2.2 = true then ((0, 0), true) else smp doc b.2.1
def hit (b : Bu) (m : Nat) : Prop := b.1.1 ≤ (m : Int) ∧ (m : Int) - b.1.1 < b.1.2
instance (b : Bu) (m : Nat) : Decidable (hit b m) := by unfold hit; exact inferInstance
/-- a sample, torn by the first bursts -/
def torn (doc : Bool) (bs : List Bu) (m : Nat) (s : Smp) : Nat → Smp
  | 0 => s
  | k + 1 => if hit (bs.getD k bd) m then buS doc (bs.getD k bd) else torn doc bs m s k
def arrF (doc : Bool) (us ds : List (Nat × Nat)) (bs : List Bu) (m : Nat) : Smp := torn doc bs m (smp doc (disF ds us m)) bs.length
def arrP (rate delay nn : Int) (ts es xs vs ds : List (Nat × Nat)) (bs : List Bu) : List Smp := tab (arrF false (passP rate delay nn ts es xs vs) ds bs) nn.toNat
def arrD (rate delay nn : Int) (ts es xs vs ds : List (Nat × Nat)) (bs : List Bu) : List Smp := tab (arrF true (passD rate delay nn ts es xs vs) ds bs) nn.toNat
def arrA (e : Int) (l : List Smp) : AV := if e = 0 then .tup [.own 2 (l.map celS) true, .int .i64 0] else .tup [.nils, .int .i64 e]
theorem ix_atI {P : Prog} {C : Caller} {x : Int} {i m : Nat} (h : i < m) (e : x = i) : Con.holds P C (.ix (.int .i64 x) m i) := by rw [e]; exact ix_at h
theorem set_tab {α : Type} {f g : Nat → α} {m i : Nat} {z d : α} (hi : i < m) (hz : z = g i) (h : ∀ j, j < m → j ≠ i → f j = g j) : (tab f m).set i z = tab g m :=
  eq_tab (d := d) (by rw [List.length_set, tab_len]) fun j hj => by
    rw [getD_sets (by rw [tab_len]; exact hi)]
    split
    · rename_i e; subst e; exact hz
    · rename_i e; rw [tab_at hj]; exact h j hj (Ne.symm e)
theorem tab_eq {α : Type} {f g : Nat → α} {m : Nat} (h : ∀ j, j < m → f j = g j) : tab f m = tab g m := by
  unfold tab
  exact List.map_congr_left fun j hj => h j (List.mem_range.1 hj)
section
variable {L n : Nat} {nn : Int} {ds us : List (Nat × Nat)} {bs : List Bu} {lu : Nat}
theorem burP (hL : bs.length ≤ L) (hm : bs.length ≤ 5000) :
    (okBs bs = true → Con.holds ⟨fnOf, specA, L+1⟩ (runF ⟨fnOf, specA, L+1⟩ n) (.loop 0 [3, 4, 5, 14, 46, 47, 48] m31b4 [26] (arV ds us bs nn lu 0) (.exit 0) (arV ds us bs nn lu bs.length))) ∧
    (okBs bs = false → ∃ s, Con.holds ⟨fnOf, specA, L+1⟩ (runF ⟨fnOf, specA, L+1⟩ n) (.loop 0 [3, 4, 5, 14, 46, 47, 48] m31b4 [26] (arV ds us bs nn lu 0) .ret s) ∧ outS s m31.res = some (.tup [.nils, .int .i64 1])) := by
  have hl : (bs.map celBu).length = bs.length := map_len
  have hstep : ∀ k, k ≤ bs.length → (∀ i, i < k → okBu (bs.getD i bd) = true) → ∀ i, i < k →
      seeZ 0 [3, 4, 5, 14, 46, 47, 48] m31.res (bodyOf ⟨fnOf, specA, L+1⟩ (runF ⟨fnOf, specA, L+1⟩ n) 0 m31b4 (i :: [26]) (arV ds us bs nn lu i)) = some (.go .nrm (arV ds us bs nn lu (i + 1))) := fun k hk h i hi => by
    have h1 := h i hi
    unfold okBu at h1
    simp only [Bool.and_eq_true, decide_eq_true_eq] at h1
    have he := elD_map (P := ⟨fnOf, specA, L+1⟩) (C := runF ⟨fnOf, specA, L+1⟩ n) (f := celBu) (d := bd) (show i < bs.length by omega)
    have hd : decide ((i : Int) < ((bs.map celBu).length : Int)) = true := by rw [hl]; exact dLt (by omega)
    have := @arv_2 (L+1) n 0 0 nn [] [] [] [] ds us [] lu 0 i [] [] [] [26] bs (bs.getD i bd) hd he (dF (by omega)) (dF (by omega))
    rw [wrap_id (n := (i : Int) + 1) (by omega)] at this
    exact this
  constructor
  · intro h
    exact loopX (res := m31.res) (fun i => arV ds us bs nn lu i) bs.length rfl hL (hstep _ (Nat.le_refl _) (okBs_is.1 h)) (@arv_3 (L+1) n 0 0 nn [] [] [] [] ds us [] lu 0 bs.length [] [] [] [26] bs (by rw [hl]; exact dNlt)) (by simp)
  · intro h
    rcases firstI (fun i => okBu (bs.getD i bd)) bs.length with h2 | ⟨k, hk, h1, h2⟩
    · rw [okBs_is.2 h2] at h; cases h
    · have he := elD_map (P := ⟨fnOf, specA, L+1⟩) (C := runF ⟨fnOf, specA, L+1⟩ n) (f := celBu) (d := bd) hk
      have hd : decide ((k : Int) < ((bs.map celBu).length : Int)) = true := by rw [hl]; exact dLt (by omega)
      refine loopZ (fun i => arV ds us bs nn lu i) k rfl (by omega) (hstep k (by omega) h1) ?_
      unfold okBu at h2
      by_cases c : 0 ≤ (bs.getD k bd).1.1
      · have c2 : ¬ 0 ≤ (bs.getD k bd).1.2 := by
          intro c2; rw [decide_eq_true c, decide_eq_true c2] at h2; cases h2
        exact @arv_1 (L+1) n 0 0 nn [] [] [] [] ds us [] lu 0 k [] [] [] [26] bs (bs.getD k bd) hd he (dF (by omega)) (dT (by omega))
      · exact @arv_0 (L+1) n 0 0 nn [] [] [] [] ds us [] lu 0 k [] [] [] [26] bs (bs.getD k bd) hd he (dT (by omega))
theorem burD (hL : bs.length ≤ L) (hm : bs.length ≤ 5000) :
    (okBs bs = true → Con.holds ⟨fnOf, specA, L+1⟩ (runF ⟨fnOf, specA, L+1⟩ n) (.loop 0 [3, 4, 5, 14, 16] m32b3 [24] (adV ds us bs nn lu 0) (.exit 0) (adV ds us bs nn lu bs.length))) ∧
    (okBs bs = false → ∃ s, Con.holds ⟨fnOf, specA, L+1⟩ (runF ⟨fnOf, specA, L+1⟩ n) (.loop 0 [3, 4, 5, 14, 16] m32b3 [24] (adV ds us bs nn lu 0) .ret s) ∧ outS s m32.res = some (.tup [.nils, .int .i64 1])) := by
  have hl : (bs.map celBu).length = bs.length := map_len
  have hstep : ∀ k, k ≤ bs.length → (∀ i, i < k → okBu (bs.getD i bd) = true) → ∀ i, i < k →
      seeZ 0 [3, 4, 5, 14, 16] m32.res (bodyOf ⟨fnOf, specA, L+1⟩ (runF ⟨fnOf, specA, L+1⟩ n) 0 m32b3 (i :: [24]) (adV ds us bs nn lu i)) = some (.go .nrm (adV ds us bs nn lu (i + 1))) := fun k hk h i hi => by
    have h1 := h i hi
    unfold okBu at h1
    simp only [Bool.and_eq_true, decide_eq_true_eq] at h1
    have he := elD_map (P := ⟨fnOf, specA, L+1⟩) (C := runF ⟨fnOf, specA, L+1⟩ n) (f := celBu) (d := bd) (show i < bs.length by omega)
    have hd : decide ((i : Int) < ((bs.map celBu).length : Int)) = true := by rw [hl]; exact dLt (by omega)
    have := @adv_2 (L+1) n 0 0 nn [] [] [] [] ds us [] lu 0 i [] [] [] [24] bs (bs.getD i bd) (bs.getD i bd) hd he (dF (by omega)) he (dF (by omega))
    rw [wrap_id (n := (i : Int) + 1) (by omega)] at this
    exact this
  constructor
  · intro h
    exact loopX (res := m32.res) (fun i => adV ds us bs nn lu i) bs.length rfl hL (hstep _ (Nat.le_refl _) (okBs_is.1 h)) (@adv_3 (L+1) n 0 0 nn [] [] [] [] ds us [] lu 0 bs.length [] [] [] [24] bs (by rw [hl]; exact dNlt)) (by simp)
  · intro h
    rcases firstI (fun i => okBu (bs.getD i bd)) bs.length with h2 | ⟨k, hk, h1, h2⟩
    · rw [okBs_is.2 h2] at h; cases h
    · have he := elD_map (P := ⟨fnOf, specA, L+1⟩) (C := runF ⟨fnOf, specA, L+1⟩ n) (f := celBu) (d := bd) hk
      have hd : decide ((k : Int) < ((bs.map celBu).length : Int)) = true := by rw [hl]; exact dLt (by omega)
      refine loopZ (fun i => adV ds us bs nn lu i) k rfl (by omega) (hstep k (by omega) h1) ?_
      unfold okBu at h2
      by_cases c : 0 ≤ (bs.getD k bd).1.1
      · have c2 : ¬ 0 ≤ (bs.getD k bd).1.2 := by
          intro c2; rw [decide_eq_true c, decide_eq_true c2] at h2; cases h2
        exact @adv_1 (L+1) n 0 0 nn [] [] [] [] ds us [] lu 0 k [] [] [] [24] bs (bs.getD k bd) (bs.getD k bd) hd he (dF (by omega)) he (dT (by omega))
      · exact @adv_0 (L+1) n 0 0 nn [] [] [] [] ds us [] lu 0 k [] [] [] [24] bs (bs.getD k bd) hd he (dT (by omega))
def disT (ds us : List (Nat × Nat)) (N i : Nat) : List (Nat × Nat) := tab (fun m => if m < i then disF ds us m else us.getD m (0, 0)) N
theorem disT_at {N i m : Nat} (h : m < N) : (disT ds us N i).getD m (0, 0) = if m < i then disF ds us m else us.getD m (0, 0) := by
  unfold disT; rw [tab_at h]
theorem disT_len {N i : Nat} : (disT ds us N i).length = N := tab_len
theorem disT_zero {N : Nat} (h : us.length = N) : disT ds us N 0 = us := (eq_tab (d := (0, 0)) h fun j hj => by rw [if_neg (by omega)]).symm
theorem disT_all {N : Nat} : disT ds us N ds.length = tab (disF ds us) N := tab_eq fun j hj => by
  split
  · rfl
  · rename_i c; unfold disF; rw [if_neg c]
theorem disP (hL : ds.length ≤ L) (hm : ds.length ≤ 65536) {N : Nat} (hN : N ≤ 65536) (hu : us.length = N) :
    (okDs ds = true → Con.holds ⟨fnOf, specA, L+1⟩ (runF ⟨fnOf, specA, L+1⟩ n) (.loop 0 [4, 5, 14, 61, 62, 63] m31b3 [30] (arD ds us bs N N 0) (.exit 2) (arD ds (tab (disF ds us) N) bs N N ds.length))) ∧
    (okDs ds = false → ∃ s, Con.holds ⟨fnOf, specA, L+1⟩ (runF ⟨fnOf, specA, L+1⟩ n) (.loop 0 [4, 5, 14, 61, 62, 63] m31b3 [30] (arD ds us bs N N 0) .ret s) ∧ outS s m31.res = some (.tup [.nils, .int .i64 7])) := by
  have hl : (ds.map celC).length = ds.length := map_len
  have hstep : ∀ k, k ≤ ds.length → (∀ i, i < k → okDi (ds.getD i (0, 0)) = true) → ∀ i, i < k →
      seeZ 0 [4, 5, 14, 61, 62, 63] m31.res (bodyOf ⟨fnOf, specA, L+1⟩ (runF ⟨fnOf, specA, L+1⟩ n) 0 m31b3 (i :: [30]) (arD ds (disT ds us N i) bs N N i)) = some (.go .nrm (arD ds (disT ds us N (i + 1)) bs N N (i + 1))) := fun k hk h i hi => by
    have h1 := h i hi
    unfold okDi at h1
    rw [Bool.and_eq_true] at h1
    have he := elD_map (P := ⟨fnOf, specA, L+1⟩) (C := runF ⟨fnOf, specA, L+1⟩ n) (f := celC) (d := (0, 0)) (show i < ds.length by omega)
    have hd : decide ((i : Int) < ((ds.map celC).length : Int)) = true := by rw [hl]; exact dLt (by omega)
    by_cases c : i < N
    · have ha : Con.holds ⟨fnOf, specA, L+1⟩ (runF ⟨fnOf, specA, L+1⟩ n) (.at ((disT ds us N i).map celC) (0 + i) [.cpx ((disT ds us N i).getD i (0, 0)).1 ((disT ds us N i).getD i (0, 0)).2]) := by
        rw [Nat.zero_add]; exact atD_map (f := celC) (by rw [disT_len]; exact c)
      have := @are_2 (L+1) n 0 0 (N : Int) [] [] [] [] ds (disT ds us N i) [] N 0 i [] [] [] [30] bs (ds.getD i (0, 0)) i ((disT ds us N i).getD i (0, 0)) i ((disT ds us N i).getD i (0, 0)) hd he (by rw [h1.1]; rfl) (by rw [h1.2]; rfl) (dLt c) (ix_at c) ha (ix_at c) ha
      rw [wrap_id (n := (i : Int) + 1) (by omega)] at this
      rw [this]
      unfold arD
      have e : (disT ds us N i).set i (fadd ((disT ds us N i).getD i (0, 0)).1 (ds.getD i (0, 0)).1, fadd ((disT ds us N i).getD i (0, 0)).2 (ds.getD i (0, 0)).2) = disT ds us N (i + 1) := by
        rw [disT_at c, if_neg (by omega)]
        unfold disT
        refine set_tab (d := (0, 0)) c ?_ fun j hj hne => ?_
        · rw [if_pos (by omega)]; unfold disF; rw [if_pos (by omega)]; rfl
        · by_cases c2 : j < i
          · rw [if_pos c2, if_pos (by omega)]
          · rw [if_neg c2, if_neg (by omega)]
      rw [← e, ← map_set, Nat.zero_add]
      rfl
    · have := @are_3 (L+1) n 0 0 (N : Int) [] [] [] [] ds (disT ds us N i) [] N 0 i [] [] [] [30] bs (ds.getD i (0, 0)) hd he (by rw [h1.1]; rfl) (by rw [h1.2]; rfl) (dF (by omega))
      rw [wrap_id (n := (i : Int) + 1) (by omega)] at this
      rw [this]
      have e : disT ds us N i = disT ds us N (i + 1) := tab_eq fun j hj => by rw [if_pos (by omega), if_pos (by omega)]
      rw [← e]; rfl
  constructor
  · intro h
    have := loopX (P := ⟨fnOf, specA, L+1⟩) (C := runF ⟨fnOf, specA, L+1⟩ n) (d := 0) (π := [30]) (m := m31b3) (res := m31.res) (fun i => arD ds (disT ds us N i) bs N N i) ds.length rfl hL (hstep _ (Nat.le_refl _) (okDs_is.1 h)) (@are_4 (L+1) n 0 0 (N : Int) [] [] [] [] ds (disT ds us N ds.length) [] N 0 ds.length [] [] [] [30] bs (by rw [hl]; exact dNlt)) (by simp)
    rw [disT_zero hu] at this
    rw [← disT_all]
    exact this
  · intro h
    rcases firstI (fun i => okDi (ds.getD i (0, 0))) ds.length with h2 | ⟨k, hk, h1, h2⟩
    · rw [okDs_is.2 h2] at h; cases h
    · have he := elD_map (P := ⟨fnOf, specA, L+1⟩) (C := runF ⟨fnOf, specA, L+1⟩ n) (f := celC) (d := (0, 0)) hk
      have hd : decide ((k : Int) < ((ds.map celC).length : Int)) = true := by rw [hl]; exact dLt (by omega)
      have := loopZ (P := ⟨fnOf, specA, L+1⟩) (C := runF ⟨fnOf, specA, L+1⟩ n) (π := [30]) (m := m31b3) (res := m31.res) (v := .tup [.nils, .int .i64 7]) (fun i => arD ds (disT ds us N i) bs N N i) k rfl (by omega) (hstep k (by omega) h1) (by
        unfold okDi at h2
        cases c : onD (ds.getD k (0, 0)).1 with
        | false => exact @are_0 (L+1) n 0 0 (N : Int) [] [] [] [] ds (disT ds us N k) [] N 0 k [] [] [] [30] bs (ds.getD k (0, 0)) hd he (by rw [c]; rfl)
        | true =>
          rw [c, Bool.true_and] at h2
          exact @are_1 (L+1) n 0 0 (N : Int) [] [] [] [] ds (disT ds us N k) [] N 0 k [] [] [] [30] bs (ds.getD k (0, 0)) hd he (by rw [c]; rfl) (by rw [h2]; rfl))
      rw [disT_zero hu] at this
      exact this
theorem disD (hL : ds.length ≤ L) (hm : ds.length ≤ 65536) :
    (okDs ds = true → Con.holds ⟨fnOf, specA, L+1⟩ (runF ⟨fnOf, specA, L+1⟩ n) (.loop 0 [3, 4, 5, 14, 17] m32b2 [26] (adD ds us bs nn lu 0) (.exit 2) (adD ds us bs nn lu ds.length))) ∧
    (okDs ds = false → ∃ s, Con.holds ⟨fnOf, specA, L+1⟩ (runF ⟨fnOf, specA, L+1⟩ n) (.loop 0 [3, 4, 5, 14, 17] m32b2 [26] (adD ds us bs nn lu 0) .ret s) ∧ outS s m32.res = some (.tup [.nils, .int .i64 7])) := by
  have hl : (ds.map celC).length = ds.length := map_len
  have hstep : ∀ k, k ≤ ds.length → (∀ i, i < k → okDi (ds.getD i (0, 0)) = true) → ∀ i, i < k →
      seeZ 0 [3, 4, 5, 14, 17] m32.res (bodyOf ⟨fnOf, specA, L+1⟩ (runF ⟨fnOf, specA, L+1⟩ n) 0 m32b2 (i :: [26]) (adD ds us bs nn lu i)) = some (.go .nrm (adD ds us bs nn lu (i + 1))) := fun k hk h i hi => by
    have h1 := h i hi
    unfold okDi at h1
    rw [Bool.and_eq_true] at h1
    have he := elD_map (P := ⟨fnOf, specA, L+1⟩) (C := runF ⟨fnOf, specA, L+1⟩ n) (f := celC) (d := (0, 0)) (show i < ds.length by omega)
    have hd : decide ((i : Int) < ((ds.map celC).length : Int)) = true := by rw [hl]; exact dLt (by omega)
    have := @ade_2 (L+1) n 0 0 nn [] [] [] [] ds us [] lu 0 i [] [] [] [26] bs (ds.getD i (0, 0)) (ds.getD i (0, 0)) hd he (by rw [h1.1]; rfl) he (by rw [h1.2]; rfl)
    rw [wrap_id (n := (i : Int) + 1) (by omega)] at this
    exact this
  constructor
  · intro h
    exact loopX (res := m32.res) (fun i => adD ds us bs nn lu i) ds.length rfl hL (hstep _ (Nat.le_refl _) (okDs_is.1 h)) (@ade_3 (L+1) n 0 0 nn [] [] [] [] ds us [] lu 0 ds.length [] [] [] [26] bs (by rw [hl]; exact dNlt)) (by simp)
  · intro h
    rcases firstI (fun i => okDi (ds.getD i (0, 0))) ds.length with h2 | ⟨k, hk, h1, h2⟩
    · rw [okDs_is.2 h2] at h; cases h
    · have he := elD_map (P := ⟨fnOf, specA, L+1⟩) (C := runF ⟨fnOf, specA, L+1⟩ n) (f := celC) (d := (0, 0)) hk
      have hd : decide ((k : Int) < ((ds.map celC).length : Int)) = true := by rw [hl]; exact dLt (by omega)
      refine loopZ (fun i => adD ds us bs nn lu i) k rfl (by omega) (hstep k (by omega) h1) ?_
      unfold okDi at h2
      cases c : onD (ds.getD k (0, 0)).1 with
      | false => exact @ade_0 (L+1) n 0 0 nn [] [] [] [] ds us [] lu 0 k [] [] [] [26] bs (ds.getD k (0, 0)) hd he (by rw [c]; rfl)
      | true =>
        rw [c, Bool.true_and] at h2
        exact @ade_1 (L+1) n 0 0 nn [] [] [] [] ds us [] lu 0 k [] [] [] [26] bs (ds.getD k (0, 0)) (ds.getD k (0, 0)) hd he (by rw [c]; rfl) he (by rw [h2]; rfl)
/-- the samples made -/
theorem samP {N : Nat} (hN : N ≤ 65536) (hu : us.length = N) (hL : N ≤ L) :
    Con.holds ⟨fnOf, specA, L+1⟩ (runF ⟨fnOf, specA, L+1⟩ n) (.loop 0 [4, 5, 20, 91, 92, 93] m31b2 [37] (arO us (List.replicate N ((0, 0), false)) bs N N N 0) (.exit 4) (arO us (tab (fun m => smp false (us.getD m (0, 0))) N) bs N N N N)) := by
  have := loop0 (P := ⟨fnOf, specA, L+1⟩) (C := runF ⟨fnOf, specA, L+1⟩ n) (d := 0) (live := [4, 5, 20, 91, 92, 93]) (π := [37]) (m := m31b2) (fun i => arO us (tab (fun m => if m < i then smp false (us.getD m (0, 0)) else ((0, 0), false)) N) bs N N N i) N (x := .exit 4) (s' := arO us (tab (fun m => if m < N then smp false (us.getD m (0, 0)) else ((0, 0), false)) N) bs N N N N) rfl hL (fun i hi => by
    have a1 : Con.holds ⟨fnOf, specA, L+1⟩ (runF ⟨fnOf, specA, L+1⟩ n) (.at (us.map celC) (0 + i) [.cpx (us.getD i (0, 0)).1 (us.getD i (0, 0)).2]) := by
      rw [Nat.zero_add]; exact atD_map (f := celC) (by omega)
    have a2 : Con.holds ⟨fnOf, specA, L+1⟩ (runF ⟨fnOf, specA, L+1⟩ n) (.at ((tab (fun m => if m < i then smp false (us.getD m (0, 0)) else ((0, 0), false)) N).map celS) (0 + i) (celS ((tab (fun m => if m < i then smp false (us.getD m (0, 0)) else ((0, 0), false)) N).getD i sd))) := by
      rw [Nat.zero_add]; exact atD_map (f := celS) (by rw [tab_len]; exact hi)
    have := @aro_0 (L+1) n 0 0 (N : Int) [] [] [] [] [] us [] N N i (tab (fun m => if m < i then smp false (us.getD m (0, 0)) else ((0, 0), false)) N) [] [] [37] bs i (us.getD i (0, 0)) i _ (dLt hi) (ix_at hi) a1 (ix_at hi) a2
    rw [wrap_id (n := (i : Int) + 1) (by omega)] at this
    rw [this]
    unfold arO
    have e : (tab (fun m => if m < i then smp false (us.getD m (0, 0)) else ((0, 0), false)) N).set i (smp false (us.getD i (0, 0))) = tab (fun m => if m < i + 1 then smp false (us.getD m (0, 0)) else ((0, 0), false)) N :=
      set_tab (d := sd) hi (by rw [if_pos (by omega)]) fun j hj hne => by
        by_cases c2 : j < i
        · rw [if_pos c2, if_pos (by omega)]
        · rw [if_neg c2, if_neg (by omega)]
    rw [← e, ← map_set, Nat.zero_add]
    rfl) (@aro_1 (L+1) n 0 0 (N : Int) [] [] [] [] [] us [] N N N (tab (fun m => if m < N then smp false (us.getD m (0, 0)) else ((0, 0), false)) N) [] [] [37] bs dNlt) (by simp)
  have e0 : tab (fun m => if m < 0 then smp false (us.getD m (0, 0)) else ((0, 0), false)) N = List.replicate N ((0, 0), false) :=
    (eq_tab (d := sd) List.length_replicate fun j hj => by
      rw [if_neg (by omega), List.getD_eq_getElem?_getD, List.getElem?_replicate, if_pos hj]; rfl).symm
  have e1 : tab (fun m => if m < N then smp false (us.getD m (0, 0)) else ((0, 0), false)) N = tab (fun m => smp false (us.getD m (0, 0))) N := tab_eq fun j hj => if_pos hj
  rw [e0, e1] at this
  exact this
end
end Go.Proofs.Ytnphdnokedhhkaa.Fw
namespace Go.Proofs.Ytnphdnokedhhkaa.Fw
open Go Go.RowKit
section
variable {L n : Nat} {nn : Int} {ds us : List (Nat × Nat)} {bs : List Bu} {lu : Nat}
/-- one place of the document's, torn -/
theorem torD {os : List Smp} {st τ π : List Nat} {lo i : Nat} {v0 : Smp} (hb : okBs bs = true) (hm : bs.length ≤ 5000) (hi : i ≤ 65536) (hL : bs.length ≤ L) :
    Con.holds ⟨fnOf, specA, L+1⟩ (runF ⟨fnOf, specA, L+1⟩ n) (.loop 0 [3, 4, 5, 14, 18, 19, 21, 22] m32b0 π (adI ds us os bs nn st τ lu lo i v0 0) (.exit 6) (adI ds us os bs nn st τ lu lo i (torn true bs i v0 bs.length) bs.length)) := by
  have hl : (bs.map celBu).length = bs.length := map_len
  refine loop0 (fun j => adI ds us os bs nn st τ lu lo i (torn true bs i v0 j) j) bs.length rfl hL (fun j hj => ?_) (@adi_4 (L+1) n 0 0 nn [] [] [] [] ds us [] lu lo i os [] st π bs τ (torn true bs i v0 bs.length) bs.length (by rw [hl]; exact dNlt)) (by simp)
  have he := elD_map (P := ⟨fnOf, specA, L+1⟩) (C := runF ⟨fnOf, specA, L+1⟩ n) (f := celBu) (d := bd) hj
  have hd : decide ((j : Int) < ((bs.map celBu).length : Int)) = true := by rw [hl]; exact dLt hj
  have ho := okBs_is.1 hb j hj
  have et : torn true bs i v0 (j + 1) = if hit (bs.getD j bd) i then buS true (bs.getD j bd) else torn true bs i v0 j := rfl
  simp only [et]
  generalize bs.getD j bd = b at *
  unfold okBu at ho
  simp only [Bool.and_eq_true, decide_eq_true_eq] at ho
  have ew : IntKind.wrap .i64 ((j : Int) + 1) = ((j + 1 : Nat) : Int) := wrapUp (m := 5000) (by omega) (by omega)
  by_cases c1 : (i : Int) ≥ b.1.1
  · have wi : IntKind.wrap .i64 ((i : Int) - b.1.1) = (i : Int) - b.1.1 := wrap_id (by omega)
    by_cases c2 : (i : Int) - b.1.1 < b.1.2
    · rw [if_pos ⟨c1, c2⟩]
      cases c3 : b.2.2 with
      | true =>
        have eb : buS true b = ((0, 0), true) := if_pos c3
        rw [eb]
        have := @adi_0 (L+1) n 0 0 nn [] [] [] [] ds us [] lu lo i os [] st π bs τ (torn true bs i v0 j) j b b b b b hd he (dT c1) he he (by rw [wi]; exact dT c2) he he c3
        rw [ew] at this
        exact this
      | false =>
        have eb : buS true b = smp true b.2.1 := if_neg (by rw [c3]; decide)
        rw [eb]
        have := @adi_1 (L+1) n 0 0 nn [] [] [] [] ds us [] lu lo i os [] st π bs τ (torn true bs i v0 j) j b b b b b hd he (dT c1) he he (by rw [wi]; exact dT c2) he he c3
        rw [ew] at this
        exact this
    · rw [if_neg (fun h => c2 h.2)]
      have := @adi_2 (L+1) n 0 0 nn [] [] [] [] ds us [] lu lo i os [] st π bs τ (torn true bs i v0 j) j b b b hd he (dT c1) he he (by rw [wi]; exact dF c2)
      rw [ew] at this
      exact this
  · rw [if_neg (fun h => c1 h.1)]
    have := @adi_3 (L+1) n 0 0 nn [] [] [] [] ds us [] lu lo i os [] st π bs τ (torn true bs i v0 j) j b hd he (dF c1)
    rw [ew] at this
    exact this
/-- the document's samples, place by place -/
theorem outD {N : Nat} (hb : okBs bs = true) (hm : bs.length ≤ 5000) (hN : N ≤ 65536) (hu : us.length = N) (hd : ds.length ≤ 65536) (hL : 70000 ≤ L) :
    ∃ st, Con.holds ⟨fnOf, specA, L+1⟩ (runF ⟨fnOf, specA, L+1⟩ n) (.loop 0 [3, 4, 5, 14, 18, 19] m32b1 [29] (adO ds us [] bs N [29] N 0 0) (.exit 4) (adO ds us (tab (arrF true us ds bs) N) bs N st N N N)) := by
  have hl : (ds.map celC).length = ds.length := map_len
  obtain ⟨s', g1, st, rfl⟩ := loopJ (P := ⟨fnOf, specA, L+1⟩) (C := runF ⟨fnOf, specA, L+1⟩ n) (L := L) (d := 0) (live := [3, 4, 5, 14, 18, 19]) (π := [29]) (m := m32b1) (A := adO ds us [] bs N [29] N 0 0)
    (fun i s => ∃ st, s = adO ds us (tab (arrF true us ds bs) i) bs N st N i i) (fun s => ∃ st, s = adO ds us (tab (arrF true us ds bs) N) bs N st N N N) N (x := .exit 4) (by simp) rfl (by omega) ⟨[29], rfl⟩
    (fun i s hi hs => by
      obtain ⟨st, rfl⟩ := hs
      have ha : Con.holds ⟨fnOf, specA, L+1⟩ (runF ⟨fnOf, specA, L+1⟩ n) (.at (us.map celC) (0 + i) [.cpx (us.getD i (0, 0)).1 (us.getD i (0, 0)).2]) := by
        rw [Nat.zero_add]; exact atD_map (f := celC) (by omega)
      have hp : Con.holds ⟨fnOf, specA, L+1⟩ (runF ⟨fnOf, specA, L+1⟩ n) (.push i 1 24 ((tab (arrF true us ds bs) i).map celS)) := push_ok (by rw [map_len, tab_len]) (by simp only [most]; omega)
      have eu : (tab (arrF true us ds bs) (i + 1)).map celS = (tab (arrF true us ds bs) i).map celS ++ [celS (arrF true us ds bs i)] := by rw [tab_up, List.map_append]; rfl
      by_cases c : i < ds.length
      · have he := elD_map (P := ⟨fnOf, specA, L+1⟩) (C := runF ⟨fnOf, specA, L+1⟩ n) (f := celC) (d := (0, 0)) c
        have ef : arrF true us ds bs i = torn true bs i (smp true (addP (us.getD i (0, 0)) (ds.getD i (0, 0)))) bs.length := by unfold arrF disF; rw [if_pos c]
        have hlo := @torD L n (N : Int) ds us bs N (tab (arrF true us ds bs) i) st ([32, i] ++ [29]) ([35, i] ++ [29]) i i (smp true (addP (us.getD i (0, 0)) (ds.getD i (0, 0)))) hb hm (by omega) (by omega)
        rw [← ef] at hlo
        have := @ado_0 (L+1) n 0 0 (N : Int) [] [] [] [] ds us [] N i i (tab (arrF true us ds bs) i) [] st [29] bs ([32, i] ++ [29]) (arrF true us ds bs i) bs.length i (us.getD i (0, 0)) (ds.getD i (0, 0)) (ds.getD i (0, 0)) (dLt hi) (ix_at hi) ha (by rw [hl]; exact dLt c) he he hlo hp
        rw [wrap_id (n := (i : Int) + 1) (by omega)] at this
        refine ⟨_, this, [39, i] ++ [29], ?_⟩
        unfold adO
        rw [eu]
        rfl
      · have ef : arrF true us ds bs i = torn true bs i (smp true (us.getD i (0, 0))) bs.length := by unfold arrF disF; rw [if_neg c]
        have hlo := @torD L n (N : Int) ds us bs N (tab (arrF true us ds bs) i) st ([14, i] ++ [29]) ([17, i] ++ [29]) i i (smp true (us.getD i (0, 0))) hb hm (by omega) (by omega)
        rw [← ef] at hlo
        have := @ado_1 (L+1) n 0 0 (N : Int) [] [] [] [] ds us [] N i i (tab (arrF true us ds bs) i) [] st [29] bs ([14, i] ++ [29]) (arrF true us ds bs i) bs.length i (us.getD i (0, 0)) (dLt hi) (ix_at hi) ha (by rw [hl]; exact dF (by omega)) hlo hp
        rw [wrap_id (n := (i : Int) + 1) (by omega)] at this
        refine ⟨_, this, [21, i] ++ [29], ?_⟩
        unfold adO
        rw [eu]
        rfl)
    (fun s hs => by
      obtain ⟨st, rfl⟩ := hs
      exact ⟨_, @ado_2 (L+1) n 0 0 (N : Int) [] [] [] [] ds us [] N N N (tab (arrF true us ds bs) N) [] st [29] bs [] sd 0 dNlt, st, rfl⟩)
  exact ⟨st, g1⟩
/-- one burst of the program's -/
theorem tearP {os : List Smp} {τ σ π : List Nat} {b : Bu} {v : Smp} {i N : Nat} (hb : okBu b = true) (hN : N ≤ 65536) (ho : os.length = N) (hL : 70000 ≤ L) : ∃ K : Nat,
    Con.holds ⟨fnOf, specA, L+1⟩ (runF ⟨fnOf, specA, L+1⟩ n) (.loop 0 [5, 20, 24, 25, 104, 105, 106, 117, 118] m31b0 π (arI os bs N τ σ b v N i 0) (.exit 8) (arI (tab (fun m => if hit b m then v else os.getD m sd) N) bs N τ σ b v N i K)) ∨
    Con.holds ⟨fnOf, specA, L+1⟩ (runF ⟨fnOf, specA, L+1⟩ n) (.loop 0 [5, 20, 24, 25, 104, 105, 106, 117, 118] m31b0 π (arI os bs N τ σ b v N i 0) (.exit 7) (arI (tab (fun m => if hit b m then v else os.getD m sd) N) bs N τ σ b v N i K)) := by
  unfold okBu at hb
  simp only [Bool.and_eq_true, decide_eq_true_eq] at hb
  obtain ⟨b1, b2⟩ := hb
  obtain ⟨⟨at', nb⟩, z⟩ := b
  obtain ⟨at', rfl⟩ : ∃ a : Nat, at' = (a : Int) := ⟨at'.toNat, by simp only at b1; omega⟩
  obtain ⟨nb, rfl⟩ : ∃ a : Nat, nb = (a : Int) := ⟨nb.toNat, by simp only at b2; omega⟩
  clear b1 b2
  have hstep : ∀ j, j < min nb (N - at') → rnd 0 [5, 20, 24, 25, 104, 105, 106, 117, 118] (bodyOf ⟨fnOf, specA, L+1⟩ (runF ⟨fnOf, specA, L+1⟩ n) 0 m31b0 (j :: π) (arI (tab (fun m => if at' ≤ m ∧ m < at' + j then v else os.getD m sd) N) bs N τ σ (((at' : Int), (nb : Int)), z) v N i j)) =
      some (.nrm, arI (tab (fun m => if at' ≤ m ∧ m < at' + (j + 1) then v else os.getD m sd) N) bs N τ σ (((at' : Int), (nb : Int)), z) v N i (j + 1)) := fun j hj => by
    have ha : Con.holds ⟨fnOf, specA, L+1⟩ (runF ⟨fnOf, specA, L+1⟩ n) (.at ((tab (fun m => if at' ≤ m ∧ m < at' + j then v else os.getD m sd) N).map celS) (0 + (at' + j)) (celS ((tab (fun m => if at' ≤ m ∧ m < at' + j then v else os.getD m sd) N).getD (at' + j) sd))) := by
      rw [Nat.zero_add]; exact atD_map (f := celS) (by rw [tab_len]; omega)
    have w1 : IntKind.wrap .i64 ((N : Int) - (j : Int)) = (N : Int) - j := wrap_id (by omega)
    have w2 : IntKind.wrap .i64 ((at' : Int) + (j : Int)) = ((at' + j : Nat) : Int) := by rw [wrap_id (by omega)]; omega
    have := @ari_1 (L+1) n 0 0 (N : Int) [] [] [] [] [] [] [] 0 N i (tab (fun m => if at' ≤ m ∧ m < at' + j then v else os.getD m sd) N) [] [] π bs τ σ (((at' : Int), (nb : Int)), z) v j (at' + j) _ (dT (by show (j : Int) < (nb : Int); omega)) (by rw [w1]; exact dF (by show ¬ ((at' : Int) ≥ _); omega)) (ix_atI (i := at' + j) (by omega) w2) ha
    rw [wrap_id (n := (j : Int) + 1) (by omega)] at this
    rw [this]
    unfold arI
    have e : (tab (fun m => if at' ≤ m ∧ m < at' + j then v else os.getD m sd) N).set (at' + j) v = tab (fun m => if at' ≤ m ∧ m < at' + (j + 1) then v else os.getD m sd) N :=
      set_tab (d := sd) (by omega) (by rw [if_pos ⟨by omega, by omega⟩]) fun k hk hne => by
        by_cases c2 : at' ≤ k ∧ k < at' + j
        · rw [if_pos c2, if_pos ⟨by omega, by omega⟩]
        · rw [if_neg c2, if_neg (by omega)]
    rw [← e, ← map_set, Nat.zero_add]
    rfl
  have e0 : tab (fun m => if at' ≤ m ∧ m < at' + 0 then v else os.getD m sd) N = os := (eq_tab (d := sd) ho fun k hk => by rw [if_neg (by omega)]).symm
  have e1 : tab (fun m => if at' ≤ m ∧ m < at' + min nb (N - at') then v else os.getD m sd) N = tab (fun m => if hit (((at' : Int), (nb : Int)), z) m then v else os.getD m sd) N := tab_eq fun k hk => by
    have h : (at' ≤ k ∧ k < at' + min nb (N - at')) ↔ hit (((at' : Int), (nb : Int)), z) k := by
      show _ ↔ (at' : Int) ≤ (k : Int) ∧ (k : Int) - (at' : Int) < (nb : Int)
      omega
    by_cases c : at' ≤ k ∧ k < at' + min nb (N - at')
    · rw [if_pos c, if_pos (h.1 c)]
    · rw [if_neg c, if_neg (fun h2 => c (h.2 h2))]
  refine ⟨min nb (N - at'), ?_⟩
  by_cases c : nb ≤ N - at'
  · left
    have := loop0 (P := ⟨fnOf, specA, L+1⟩) (C := runF ⟨fnOf, specA, L+1⟩ n) (d := 0) (live := [5, 20, 24, 25, 104, 105, 106, 117, 118]) (π := π) (m := m31b0) (fun j => arI (tab (fun m => if at' ≤ m ∧ m < at' + j then v else os.getD m sd) N) bs N τ σ (((at' : Int), (nb : Int)), z) v N i j) (min nb (N - at')) (x := .exit 8) (s' := arI (tab (fun m => if at' ≤ m ∧ m < at' + min nb (N - at') then v else os.getD m sd) N) bs N τ σ (((at' : Int), (nb : Int)), z) v N i (min nb (N - at'))) rfl (by omega) hstep
      (@ari_2 (L+1) n 0 0 (N : Int) [] [] [] [] [] [] [] 0 N i _ [] [] π bs τ σ (((at' : Int), (nb : Int)), z) v (min nb (N - at')) (dF (by show ¬ ((_ : Int) < (nb : Int)); omega))) (by simp)
    rw [e0, e1] at this
    exact this
  · right
    have w1 : IntKind.wrap .i64 ((N : Int) - ((min nb (N - at') : Nat) : Int)) = (N : Int) - ((min nb (N - at') : Nat) : Int) := wrap_id (by omega)
    have := loop0 (P := ⟨fnOf, specA, L+1⟩) (C := runF ⟨fnOf, specA, L+1⟩ n) (d := 0) (live := [5, 20, 24, 25, 104, 105, 106, 117, 118]) (π := π) (m := m31b0) (fun j => arI (tab (fun m => if at' ≤ m ∧ m < at' + j then v else os.getD m sd) N) bs N τ σ (((at' : Int), (nb : Int)), z) v N i j) (min nb (N - at')) (x := .exit 7) (s' := arI (tab (fun m => if at' ≤ m ∧ m < at' + min nb (N - at') then v else os.getD m sd) N) bs N τ σ (((at' : Int), (nb : Int)), z) v N i (min nb (N - at'))) rfl (by omega) hstep
      (@ari_0 (L+1) n 0 0 (N : Int) [] [] [] [] [] [] [] 0 N i _ [] [] π bs τ σ (((at' : Int), (nb : Int)), z) v (min nb (N - at')) (dT (by show (_ : Int) < (nb : Int); omega)) (by rw [w1]; exact dT (by show (at' : Int) ≥ _; omega))) (by simp)
    rw [e0, e1] at this
    exact this
/-- all bursts of the program's -/
theorem bursP {N : Nat} {s0 : Nat → Smp} (hb : okBs bs = true) (hm : bs.length ≤ 5000) (hN : N ≤ 65536) (hL : 70000 ≤ L) :
    Con.holds ⟨fnOf, specA, L+1⟩ (runF ⟨fnOf, specA, L+1⟩ n) (.loop 0 [5, 20, 104, 105, 106] m31b1 [41] (arB (tab s0 N) bs N N 0) (.exit 6) (arB (tab (fun m => torn false bs m (s0 m) bs.length) N) bs N N bs.length)) := by
  have hl : (bs.map celBu).length = bs.length := map_len
  refine loop0 (fun k => arB (tab (fun m => torn false bs m (s0 m) k) N) bs N N k) bs.length rfl (by omega) (fun k hk => ?_) (@arb_2 (L+1) n 0 0 (N : Int) [] [] [] [] [] [] [] 0 N bs.length (tab (fun m => torn false bs m (s0 m) bs.length) N) [] [] [41] bs [] [] bd sd 0 (by rw [hl]; exact dNlt)) (by simp)
  have he := elD_map (P := ⟨fnOf, specA, L+1⟩) (C := runF ⟨fnOf, specA, L+1⟩ n) (f := celBu) (d := bd) hk
  have hd : decide ((k : Int) < ((bs.map celBu).length : Int)) = true := by rw [hl]; exact dLt hk
  have ho := okBs_is.1 hb k hk
  have ew : IntKind.wrap .i64 ((k : Int) + 1) = ((k + 1 : Nat) : Int) := wrapUp (m := 5000) (by omega) (by omega)
  have et : tab (fun m => if hit (bs.getD k bd) m then buS false (bs.getD k bd) else (tab (fun m => torn false bs m (s0 m) k) N).getD m sd) N = tab (fun m => torn false bs m (s0 m) (k + 1)) N := tab_eq fun j hj => by rw [tab_at hj]; rfl
  generalize bs.getD k bd = b at *
  cases c3 : b.2.2 with
  | true =>
    have eb : buS false b = ((0, 0), true) := if_pos c3
    obtain ⟨K, h | h⟩ := @tearP L n bs (tab (fun m => torn false bs m (s0 m) k) N) ([3, k] ++ [41]) ([8, k] ++ [41]) ([17, k] ++ [41]) b ((0, 0), true) k N ho hN tab_len hL
    · rw [← eb, et, eb] at h
      have := @arb_0 (L+1) n 0 0 (N : Int) [] [] [] [] [] [] [] 0 N k (tab (fun m => torn false bs m (s0 m) k) N) (tab (fun m => torn false bs m (s0 m) (k + 1)) N) [] [41] bs ([3, k] ++ [41]) ([8, k] ++ [41]) b ((0, 0), true) K b hd he c3 h
      rw [ew] at this
      exact this
    · rw [← eb, et, eb] at h
      have := @arx_0 (L+1) n 0 0 (N : Int) [] [] [] [] [] [] [] 0 N k (tab (fun m => torn false bs m (s0 m) k) N) (tab (fun m => torn false bs m (s0 m) (k + 1)) N) [] [41] bs ([3, k] ++ [41]) ([8, k] ++ [41]) b ((0, 0), true) K b hd he c3 h
      rw [ew] at this
      exact this
  | false =>
    have eb : buS false b = smp false b.2.1 := if_neg (by rw [c3]; decide)
    rw [eb] at et
    obtain ⟨K, h | h⟩ := @tearP L n bs (tab (fun m => torn false bs m (s0 m) k) N) ([3, k] ++ [41]) ([8, k] ++ [41]) ([15, k] ++ [41]) b (smp false b.2.1) k N ho hN tab_len hL
    · rw [et] at h
      have := @arb_1 (L+1) n 0 0 (N : Int) [] [] [] [] [] [] [] 0 N k (tab (fun m => torn false bs m (s0 m) k) N) (tab (fun m => torn false bs m (s0 m) (k + 1)) N) [] [41] bs ([3, k] ++ [41]) ([8, k] ++ [41]) b (smp false b.2.1) K b hd he c3 h
      rw [ew] at this
      exact this
    · rw [et] at h
      have := @arx_1 (L+1) n 0 0 (N : Int) [] [] [] [] [] [] [] 0 N k (tab (fun m => torn false bs m (s0 m) k) N) (tab (fun m => torn false bs m (s0 m) (k + 1)) N) [] [41] bs ([3, k] ++ [41]) ([8, k] ++ [41]) b (smp false b.2.1) K b hd he c3 h
      rw [ew] at this
      exact this
end
end Go.Proofs.Ytnphdnokedhhkaa.Fw
namespace Go.Proofs.Ytnphdnokedhhkaa.Fw
open Go Go.RowKit
section
variable {L n : Nat} {rate delay nn : Int} {ts es xs vs ds : List (Nat × Nat)} {bs : List Bu}
theorem arr_prog (hL : 70000 ≤ L) (m1 : shortL ts) (m2 : shortL es) (m3 : shortL xs) (m4 : shortL vs) :
    den ⟨fnOf, specA, L+1⟩ (n+1) 31 [.agg [.int .i64 rate, .int .i64 delay, .lst 1 (ts.map celC), .lst 1 (es.map celC)], .lst 1 (xs.map celC), .lst 1 (vs.map celC), .lst 1 (ds.map celC), .lst 4 (bs.map celBu), .int .i64 nn] = some (arrA (arrE rate delay nn ts es xs vs ds bs) (arrP rate delay nn ts es xs vs ds bs)) := by
  have hld : (ds.map celC).length = ds.length := map_len
  have hlb : (bs.map celBu).length = bs.length := map_len
  have p1 := spec_is (P := ⟨fnOf, specA, L+1⟩) (C := runF ⟨fnOf, specA, L+1⟩ n) (f := 19) (g := pasSem false) rfl (pasSem_at false (rate := rate) (delay := delay) (nn := nn) m1 m2 m3 m4)
  unfold pasQ at p1
  unfold arrA
  by_cases a1 : passE rate delay nn ts es xs vs = 0
  case neg =>
    have e : arrE rate delay nn ts es xs vs ds bs = passE rate delay nn ts es xs vs := if_pos a1
    rw [e, if_neg a1]
    exact @arp_0 (L+1) n rate delay nn ts es xs vs ds [] [] 0 0 0 [] [] [] [] bs 0 0 0 _ _ p1 (by simpa using a1)
  have hE : arrE rate delay nn ts es xs vs ds bs = if 65536 < ds.length ∨ 5000 < bs.length then 1 else if okBs bs = true then (if okDs ds = true then 0 else 7) else 1 := if_neg (by simp [a1])
  have n1 : (passE rate delay nn ts es xs vs != 0) = false := by rw [a1]; rfl
  obtain ⟨hpl, hdl, hnn, _⟩ := pass_same a1
  have hW : (passP rate delay nn ts es xs vs).length = nn.toNat := hpl
  rw [if_pos a1] at p1
  have p1 : Con.holds ⟨fnOf, specA, L+1⟩ (runF ⟨fnOf, specA, L+1⟩ n) (.spec 19 [.agg [.int .i64 rate, .int .i64 delay, .lst 1 (ts.map celC), .lst 1 (es.map celC)], .lst 1 (xs.map celC), .lst 1 (vs.map celC), .int .i64 nn] (.tup [.own 1 ((passP rate delay nn ts es xs vs).map celC) true, .int .i64 (passE rate delay nn ts es xs vs)])) := p1
  have hR : arrP rate delay nn ts es xs vs ds bs = tab (arrF false (passP rate delay nn ts es xs vs) ds bs) nn.toNat := rfl
  have hn0 : 0 ≤ nn := by
    rcases Int.lt_or_le nn 0 with h | h
    · exfalso
      unfold passE at a1
      split at a1
      · rename_i c; exact c a1
      · rw [if_pos (.inl h)] at a1; cases a1
    · exact h
  rw [hR]
  generalize passP rate delay nn ts es xs vs = us at *
  have hus : (us.map celC).length = nn.toNat := by rw [← hW]; exact map_len
  obtain ⟨N, rfl⟩ : ∃ N : Nat, nn = N := ⟨nn.toNat, by omega⟩
  rw [Int.toNat_natCast] at *
  by_cases a2 : 65536 < ds.length
  · rw [hE.trans (if_pos (.inl a2)), if_neg (by decide)]
    exact @arp_1 (L+1) n rate delay N ts es xs vs ds [] [] 0 0 0 [] [] [] [] bs 0 0 0 _ _ p1 n1 (by rw [hld]; exact dT (by omega))
  have n2 : decide (((ds.map celC).length : Int) > 65536) = false := by rw [hld]; exact dF (by omega)
  by_cases a3 : 5000 < bs.length
  · rw [hE.trans (if_pos (.inr a3)), if_neg (by decide)]
    exact @arp_2 (L+1) n rate delay N ts es xs vs ds [] [] 0 0 0 [] [] [] [] bs 0 0 0 _ _ p1 n1 n2 (by rw [hlb]; exact dT (by omega))
  have n3 : decide (((bs.map celBu).length : Int) > 5000) = false := by rw [hlb]; exact dF (by omega)
  have hE2 := hE.trans (if_neg (by omega))
  obtain ⟨v1, v2⟩ := @burP L n (N : Int) ds us bs N (by omega) (by omega)
  cases b1 : okBs bs with
  | false =>
    obtain ⟨s, q1, q2⟩ := v2 b1
    have e : arrE rate delay (N : Int) ts es xs vs ds bs = 1 := by rw [hE2, b1]; rfl
    rw [e, if_neg (by decide)]
    exact @aqp_3 (L+1) n rate delay N ts es xs vs ds [] [] 0 0 0 [] [] [] [] bs s _ us _ p1 n1 n2 n3 (by rw [hus]; exact q1) q2
  | true =>
  have v1 := v1 b1
  obtain ⟨w1, w2⟩ := @disP L n ds us bs (by omega) (by omega) N (by omega) hW
  cases b2 : okDs ds with
  | false =>
    obtain ⟨s, q1, q2⟩ := w2 b2
    have e : arrE rate delay (N : Int) ts es xs vs ds bs = 7 := by rw [hE2, b1, b2]; rfl
    rw [e, if_neg (by decide)]
    exact @aup_3 (L+1) n rate delay N ts es xs vs ds us [] N 0 bs.length [] [] [] [] bs s _ us _ p1 n1 n2 n3 (by rw [hus]; exact v1) q1 q2
  | true =>
    have w1 := w1 b2
    have e : arrE rate delay (N : Int) ts es xs vs ds bs = 0 := by rw [hE2, b1, b2]; rfl
    rw [e, if_pos rfl]
    have hz : (tab (disF ds us) N).length = N := tab_len
    have s1 := @samP L n (tab (disF ds us) N) bs N (by omega) hz (by omega)
    have et : tab (fun m => smp false ((tab (disF ds us) N).getD m (0, 0))) N = tab (fun m => smp false (disF ds us m)) N := tab_eq fun j hj => by rw [tab_at hj]
    rw [et] at s1
    have t1 := @bursP L n bs N (fun m => smp false (disF ds us m)) b1 (by omega) (by omega) hL
    have hmk : Con.holds ⟨fnOf, specA, L+1⟩ (runF ⟨fnOf, specA, L+1⟩ n) (.mk N N true ((List.replicate N ((0, 0), false)).map celS) (N : Int) (N : Int) 24 [.cpx 0 0, .v (.bool false)]) := mk_ok (f := celS) rfl (by simp only [most]; omega) (by simp only [most]; omega)
    have hfin : tab (fun m => torn false bs m (smp false (disF ds us m)) bs.length) N = tab (arrF false us ds bs) N := rfl
    rw [hfin] at t1
    have hlen : ((tab (arrF false us ds bs) N).map celS).length = N := by rw [map_len, tab_len]
    have hle : Con.holds ⟨fnOf, specA, L+1⟩ (runF ⟨fnOf, specA, L+1⟩ n) (.le N (List.length ((tab (arrF false us ds bs) N).map celS))) := by show _ ≤ _; rw [hlen]; exact Nat.le_refl _
    have key := @arp_3 (L+1) n rate delay N ts es xs vs ds us (tab (disF ds us) N) N N bs.length (tab (fun m => smp false (disF ds us m)) N) (tab (arrF false us ds bs) N) [] [] bs ds.length N bs.length us _ N p1 n1 n2 n3 (by rw [hus]; exact v1) w1 hmk s1 t1 hle
    rw [key, tkMap tab_len.symm]
theorem arr_doc (hL : 70000 ≤ L) (m1 : shortL ts) (m2 : shortL es) (m3 : shortL xs) (m4 : shortL vs) :
    den ⟨fnOf, specA, L+1⟩ (n+1) 32 [.agg [.int .i64 rate, .int .i64 delay, .lst 1 (ts.map celC), .lst 1 (es.map celC)], .lst 1 (xs.map celC), .lst 1 (vs.map celC), .lst 1 (ds.map celC), .lst 4 (bs.map celBu), .int .i64 nn] = some (arrA (arrE rate delay nn ts es xs vs ds bs) (arrD rate delay nn ts es xs vs ds bs)) := by
  have hld : (ds.map celC).length = ds.length := map_len
  have hlb : (bs.map celBu).length = bs.length := map_len
  have p1 := spec_is (P := ⟨fnOf, specA, L+1⟩) (C := runF ⟨fnOf, specA, L+1⟩ n) (f := 20) (g := pasSem true) rfl (pasSem_at true (rate := rate) (delay := delay) (nn := nn) m1 m2 m3 m4)
  unfold pasQ at p1
  unfold arrA
  by_cases a1 : passE rate delay nn ts es xs vs = 0
  case neg =>
    have e : arrE rate delay nn ts es xs vs ds bs = passE rate delay nn ts es xs vs := if_pos a1
    rw [e, if_neg a1]
    exact @ard_0 (L+1) n rate delay nn ts es xs vs ds [] [] 0 0 0 [] [] [] [] bs 0 0 0 _ _ p1 (by simpa using a1)
  have hE : arrE rate delay nn ts es xs vs ds bs = if 65536 < ds.length ∨ 5000 < bs.length then 1 else if okBs bs = true then (if okDs ds = true then 0 else 7) else 1 := if_neg (by simp [a1])
  have n1 : (passE rate delay nn ts es xs vs != 0) = false := by rw [a1]; rfl
  obtain ⟨hpl, hdl, hnn, _⟩ := pass_same a1
  have hW : (passD rate delay nn ts es xs vs).length = nn.toNat := hdl
  rw [if_pos a1] at p1
  have p1 : Con.holds ⟨fnOf, specA, L+1⟩ (runF ⟨fnOf, specA, L+1⟩ n) (.spec 20 [.agg [.int .i64 rate, .int .i64 delay, .lst 1 (ts.map celC), .lst 1 (es.map celC)], .lst 1 (xs.map celC), .lst 1 (vs.map celC), .int .i64 nn] (.tup [.own 1 ((passD rate delay nn ts es xs vs).map celC) true, .int .i64 (passE rate delay nn ts es xs vs)])) := p1
  have hR : arrD rate delay nn ts es xs vs ds bs = tab (arrF true (passD rate delay nn ts es xs vs) ds bs) nn.toNat := rfl
  have hn0 : 0 ≤ nn := by
    rcases Int.lt_or_le nn 0 with h | h
    · exfalso
      unfold passE at a1
      split at a1
      · rename_i c; exact c a1
      · rw [if_pos (.inl h)] at a1; cases a1
    · exact h
  rw [hR]
  generalize passD rate delay nn ts es xs vs = us at *
  have hus : (us.map celC).length = nn.toNat := by rw [← hW]; exact map_len
  obtain ⟨N, rfl⟩ : ∃ N : Nat, nn = N := ⟨nn.toNat, by omega⟩
  rw [Int.toNat_natCast] at *
  by_cases a2 : 65536 < ds.length
  · rw [hE.trans (if_pos (.inl a2)), if_neg (by decide)]
    exact @ard_1 (L+1) n rate delay N ts es xs vs ds [] [] 0 0 0 [] [] [] [] bs 0 0 0 _ _ p1 n1 (by rw [hld]; exact dT (by omega))
  have n2 : decide (((ds.map celC).length : Int) > 65536) = false := by rw [hld]; exact dF (by omega)
  by_cases a3 : 5000 < bs.length
  · rw [hE.trans (if_pos (.inr a3)), if_neg (by decide)]
    exact @ard_2 (L+1) n rate delay N ts es xs vs ds [] [] 0 0 0 [] [] [] [] bs 0 0 0 _ _ p1 n1 n2 (by rw [hlb]; exact dT (by omega))
  have n3 : decide (((bs.map celBu).length : Int) > 5000) = false := by rw [hlb]; exact dF (by omega)
  have hE2 := hE.trans (if_neg (by omega))
  obtain ⟨v1, v2⟩ := @burD L n (N : Int) ds us bs N (by omega) (by omega)
  cases b1 : okBs bs with
  | false =>
    obtain ⟨s, q1, q2⟩ := v2 b1
    have e : arrE rate delay (N : Int) ts es xs vs ds bs = 1 := by rw [hE2, b1]; rfl
    rw [e, if_neg (by decide)]
    exact @aqd_3 (L+1) n rate delay N ts es xs vs ds [] [] 0 0 0 [] [] [] [] bs s _ us _ p1 n1 n2 n3 (by rw [hus]; exact q1) q2
  | true =>
  have v1 := v1 b1
  obtain ⟨w1, w2⟩ := @disD L n (N : Int) ds us bs N (by omega) (by omega)
  cases b2 : okDs ds with
  | false =>
    obtain ⟨s, q1, q2⟩ := w2 b2
    have e : arrE rate delay (N : Int) ts es xs vs ds bs = 7 := by rw [hE2, b1, b2]; rfl
    rw [e, if_neg (by decide)]
    exact @aud_3 (L+1) n rate delay N ts es xs vs ds us [] N 0 bs.length [] [] [] [] bs s _ us _ p1 n1 n2 n3 (by rw [hus]; exact v1) q1 q2
  | true =>
    have w1 := w1 b2
    have e : arrE rate delay (N : Int) ts es xs vs ds bs = 0 := by rw [hE2, b1, b2]; rfl
    rw [e, if_pos rfl]
    obtain ⟨st, t1⟩ := @outD L n ds us bs N b1 (by omega) (by omega) hW (by omega) hL
    have hlen : ((tab (arrF true us ds bs) N).map celS).length = N := by rw [map_len, tab_len]
    have hle : Con.holds ⟨fnOf, specA, L+1⟩ (runF ⟨fnOf, specA, L+1⟩ n) (.le N (List.length ((tab (arrF true us ds bs) N).map celS))) := by show _ ≤ _; rw [hlen]; exact Nat.le_refl _
    have key := @ard_3 (L+1) n rate delay N ts es xs vs ds us [] N N bs.length (tab (arrF true us ds bs) N) [] st [] bs ds.length N 0 us _ p1 n1 n2 n3 (by rw [hus]; exact v1) w1 t1 hle
    rw [key, tkMap tab_len.symm]
end
end Go.Proofs.Ytnphdnokedhhkaa.Fw
namespace Go.Proofs.Ytnphdnokedhhkaa.Fw
open Go Go.RowKit
def nz1 : AV → AV
  | .nils => .lst 1 []
  | x => x
def nzA : AV → AV
  | .agg cs => .agg (cs.map nz1)
  | x => nz1 x
theorem wi_nz1 (x : AV) : Wi1 x (nz1 x) := by
  unfold nz1
  split
  · exact .inr ⟨rfl, 1, rfl⟩
  · exact .refl _
theorem all_nz1 : ∀ cs : List AV, All2 Wi1 cs (cs.map nz1)
  | [] => trivial
  | x :: r => ⟨wi_nz1 x, all_nz1 r⟩
theorem wi_nzA (x : AV) : WiA x (nzA x) := by
  unfold nzA
  split
  · exact .inl ⟨_, _, rfl, rfl, all_nz1 _⟩
  · exact .inr (wi_nz1 _)
theorem wi_nz : ∀ avs : List AV, All2 WiA avs (avs.map nzA)
  | [] => trivial
  | x :: r => ⟨wi_nzA x, wi_nz r⟩
def newV1 : FuncId → Option (List AV → Option AV)
  | 22 => some (fun avs => chkSem (avs.map nzA))
  | 23 => some (fun avs => chkSem (avs.map nzA))
  | _ => none
theorem spec_v1 : SpecOk Try.prog ⟨fnOf, fun f => match newV1 f with | some g => some g | none => specT f, 0⟩ :=
  spec_adds spec_t (fun L => fnsOk _ _) follows newV1 fun f g h => by
    unfold newV1 at h
    split at h
    · cases h
      refine ⟨⟨_, Try.func22, ne_of_beq_false (by kernel_rfl), by kernel_rfl⟩, fun avs r h => ?_⟩
      have hw := wi_nz avs
      obtain ⟨rate, delay, ts, es, he, m1, m2, rfl⟩ := chkSem_is h
      rw [he] at hw
      exact ⟨_, 0, 1, _, hw, (check_both m1 m2).1, WkT.refl _⟩
    · cases h
      refine ⟨⟨_, Try.func23, ne_of_beq_false (by kernel_rfl), by kernel_rfl⟩, fun avs r h => ?_⟩
      have hw := wi_nz avs
      obtain ⟨rate, delay, ts, es, he, m1, m2, rfl⟩ := chkSem_is h
      rw [he] at hw
      exact ⟨_, 0, 1, _, hw, (check_both m1 m2).2, WkT.refl _⟩
    · cases h
def newV2 : FuncId → Option (List AV → Option AV)
  | 44 => some (fun avs => rowSem (avs.map nzA))
  | _ => none
theorem spec_v2 : SpecOk Try.prog ⟨fnOf, fun f => match newV2 f with | some g => some g | none => specW f, 0⟩ :=
  spec_adds spec_w (fun L => fnsOk _ _) follows newV2 fun f g h => by
    unfold newV2 at h
    split at h
    · cases h
      refine ⟨⟨_, Try.func44, ne_of_beq_false (by kernel_rfl), by kernel_rfl⟩, fun avs r h => ?_⟩
      have hw := wi_nz avs
      obtain ⟨xs, he, hm, rfl⟩ := rowSem_is h
      rw [he] at hw
      exact ⟨_, xs.length + 1, 3, _, hw, plain_den (Nat.le_refl _) hm, WkT.refl _⟩
    · cases h
def newV : FuncId → Option (List AV → Option AV)
  | 22 => some (fun avs => chkSem (avs.map nzA))
  | 23 => some (fun avs => chkSem (avs.map nzA))
  | 44 => some (fun avs => rowSem (avs.map nzA))
  | _ => none
def specV : FuncId → Option (List AV → Option AV) := fun f => match newV f with | some g => some g | none => specX f
theorem spec_v : SpecOk Try.prog ⟨fnOf, specV, 0⟩ := by
  intro f g h
  have h : (match newV f with | some g => some g | none => specX f) = some g := h
  unfold newV at h
  split at h
  · rename_i g' hq
    split at hq
    · cases hq; cases h; exact spec_v1 22 _ rfl
    · cases hq; cases h; exact spec_v1 23 _ rfl
    · cases hq; cases h; exact spec_v2 44 _ rfl
    · cases hq
  · exact spec_x f g h
end Go.Proofs.Ytnphdnokedhhkaa.Fw
namespace Go.Proofs.Ytnphdnokedhhkaa.Fw
open Go Go.RowKit
def arrQ (e : Int) (l : List Smp) : AV := .tup [.own 2 ((if e = 0 then l else []).map celS) true, .int .i64 e]
theorem arr_wk (e : Int) (l : List Smp) : WkT (arrA e l) (arrQ e l) := by
  unfold arrA arrQ
  by_cases h : e = 0
  · rw [if_pos h, if_pos h, h]; exact WkT.refl _
  · rw [if_neg h, if_neg h]
    exact .inl ⟨_, _, rfl, rfl, ⟨.inr (.inr ⟨rfl, 2, true, rfl⟩), .inr (.inl rfl), trivial⟩⟩
def unBu : List AV → Option Bu
  | [.v (.int .i64 a), .v (.int .i64 m), .cpx x y, .v (.bool c)] => some ((a, m), (x, y), c)
  | _ => none
theorem unBu_is (e : List AV) (x : Bu) (h : unBu e = some x) : e = celBu x := by
  unfold unBu at h
  split at h
  · cases h; rfl
  · cases h
theorem unBu_L (xs : List Bu) : unL unBu (xs.map celBu) = some xs := unL_enc (enc := celBu) (fun _ => rfl) xs
def nz4 : AV → AV
  | .nils => .lst 4 []
  | x => x
theorem wi_nz4 (x : AV) : WiA x (nz4 x) := by
  unfold nz4
  split
  · exact .inr (.inr ⟨rfl, 4, rfl⟩)
  · exact .refl _
def nzR : List AV → List AV
  | [a, b, c, d, e, f] => [nzA a, nzA b, nzA c, nzA d, nz4 e, f]
  | l => l
theorem wi_nzR (avs : List AV) : All2 WiA avs (nzR avs) := by
  unfold nzR
  split
  · exact ⟨wi_nzA _, wi_nzA _, wi_nzA _, wi_nzA _, wi_nz4 _, .refl _, trivial⟩
  · exact all2_refl WiA.refl _
def arrSem (doc : Bool) : List AV → Option AV
  | [.agg [.v (.int .i64 rate), .v (.int .i64 delay), .lst 1 e1, .lst 1 e2], .lst 1 e3, .lst 1 e4, .lst 1 e5, .lst 4 e6, .v (.int .i64 nn)] =>
    (unL unC e1).bind fun ts => (unL unC e2).bind fun es => (unL unC e3).bind fun xs => (unL unC e4).bind fun vs => (unL unC e5).bind fun ds => (unL unBu e6).bind fun bs =>
      if shortL ts ∧ shortL es ∧ shortL xs ∧ shortL vs then some (arrQ (arrE rate delay nn ts es xs vs ds bs) (if doc then arrD rate delay nn ts es xs vs ds bs else arrP rate delay nn ts es xs vs ds bs)) else none
  | _ => none
theorem arrSem_is {doc : Bool} {avs : List AV} {r : AV} (h : arrSem doc avs = some r) : ∃ rate delay nn ts es xs vs ds bs, avs = [.agg [.int .i64 rate, .int .i64 delay, .lst 1 (ts.map celC), .lst 1 (es.map celC)], .lst 1 (xs.map celC), .lst 1 (vs.map celC), .lst 1 (ds.map celC), .lst 4 (bs.map celBu), .int .i64 nn] ∧
    shortL ts ∧ shortL es ∧ shortL xs ∧ shortL vs ∧ r = arrQ (arrE rate delay nn ts es xs vs ds bs) (if doc then arrD rate delay nn ts es xs vs ds bs else arrP rate delay nn ts es xs vs ds bs) := by
  unfold arrSem at h
  split at h
  · rename_i rate delay e1 e2 e3 e4 e5 e6 nn
    rw [Option.bind_eq_some_iff] at h
    obtain ⟨ts, h1, h⟩ := h
    rw [Option.bind_eq_some_iff] at h
    obtain ⟨es, h2, h⟩ := h
    rw [Option.bind_eq_some_iff] at h
    obtain ⟨xs, h3, h⟩ := h
    rw [Option.bind_eq_some_iff] at h
    obtain ⟨vs, h4, h⟩ := h
    rw [Option.bind_eq_some_iff] at h
    obtain ⟨ds, h5, h⟩ := h
    rw [Option.bind_eq_some_iff] at h
    obtain ⟨bs, h6, h⟩ := h
    split at h
    · rename_i hm
      cases h
      have g1 := unL_inv (enc := celC) unC_is h1
      have g2 := unL_inv (enc := celC) unC_is h2
      have g3 := unL_inv (enc := celC) unC_is h3
      have g4 := unL_inv (enc := celC) unC_is h4
      have g5 := unL_inv (enc := celC) unC_is h5
      have g6 := unL_inv (enc := celBu) unBu_is h6
      subst g1; subst g2; subst g3; subst g4; subst g5; subst g6
      exact ⟨rate, delay, nn, ts, es, xs, vs, ds, bs, rfl, hm.1, hm.2.1, hm.2.2.1, hm.2.2.2, rfl⟩
    · cases h
  · cases h
theorem arrSem_at (doc : Bool) {rate delay nn : Int} {ts es xs vs ds : List (Nat × Nat)} {bs : List Bu} (h1 : shortL ts) (h2 : shortL es) (h3 : shortL xs) (h4 : shortL vs) : arrSem doc [.agg [.int .i64 rate, .int .i64 delay, .lst 1 (ts.map celC), .lst 1 (es.map celC)], .lst 1 (xs.map celC), .lst 1 (vs.map celC), .lst 1 (ds.map celC), .lst 4 (bs.map celBu), .int .i64 nn] =
    some (arrQ (arrE rate delay nn ts es xs vs ds bs) (if doc then arrD rate delay nn ts es xs vs ds bs else arrP rate delay nn ts es xs vs ds bs)) := by
  simp only [arrSem, unC_L, unBu_L, Option.bind_some, if_pos (And.intro h1 (And.intro h2 (And.intro h3 h4)))]
def newB : FuncId → Option (List AV → Option AV)
  | 31 => some (fun avs => arrSem false (nzR avs))
  | 32 => some (fun avs => arrSem true (nzR avs))
  | 33 => some (fun avs => den ⟨fnOf, specK, 20000000000001⟩ 1 33 avs)
  | 30 => some (fun avs => den ⟨fnOf, specK, 20000000000001⟩ 1 30 avs)
  | _ => none
def newB1 : FuncId → Option (List AV → Option AV)
  | 31 => some (fun avs => arrSem false (nzR avs))
  | 32 => some (fun avs => arrSem true (nzR avs))
  | _ => none
def newB2 : FuncId → Option (List AV → Option AV)
  | 33 => some (fun avs => den ⟨fnOf, specK, 20000000000001⟩ 1 33 avs)
  | 30 => some (fun avs => den ⟨fnOf, specK, 20000000000001⟩ 1 30 avs)
  | _ => none
theorem spec_b1 : SpecOk Try.prog ⟨fnOf, fun f => match newB1 f with | some g => some g | none => specA f, 0⟩ :=
  spec_adds spec_a (fun L => fnsOk _ _) follows newB1 fun f g h => by
    unfold newB1 at h
    split at h
    · cases h
      refine ⟨⟨_, Try.func31, ne_of_beq_false (by kernel_rfl), by kernel_rfl⟩, fun avs r h => ?_⟩
      have hw := wi_nzR avs
      obtain ⟨rate, delay, nn, ts, es, xs, vs, ds, bs, he, h1, h2, h3, h4, rfl⟩ := arrSem_is h
      rw [he] at hw
      exact ⟨_, _, _, _, hw, @arr_prog 70000 0 rate delay nn ts es xs vs ds bs (Nat.le_refl _) h1 h2 h3 h4, arr_wk _ _⟩
    · cases h
      refine ⟨⟨_, Try.func32, ne_of_beq_false (by kernel_rfl), by kernel_rfl⟩, fun avs r h => ?_⟩
      have hw := wi_nzR avs
      obtain ⟨rate, delay, nn, ts, es, xs, vs, ds, bs, he, h1, h2, h3, h4, rfl⟩ := arrSem_is h
      rw [he] at hw
      exact ⟨_, _, _, _, hw, @arr_doc 70000 0 rate delay nn ts es xs vs ds bs (Nat.le_refl _) h1 h2 h3 h4, arr_wk _ _⟩
    · cases h
theorem spec_b2 : SpecOk Try.prog ⟨fnOf, fun f => match newB2 f with | some g => some g | none => specK f, 0⟩ :=
  spec_adds spec_k (fun L => fnsOk _ _) follows newB2 fun f g h => by
    unfold newB2 at h
    split at h
    · cases h
      exact ⟨⟨_, Try.func33, ne_of_beq_false (by kernel_rfl), by kernel_rfl⟩, fun avs r h => toldZ (P := ⟨fnOf, specK, 0⟩) h (WkT.refl _)⟩
    · cases h
      exact ⟨⟨_, Try.func30, ne_of_beq_false (by kernel_rfl), by kernel_rfl⟩, fun avs r h => toldZ (P := ⟨fnOf, specK, 0⟩) h (WkT.refl _)⟩
    · cases h
def specB : FuncId → Option (List AV → Option AV) := fun f => match newB f with | some g => some g | none => specA f
theorem spec_b : SpecOk Try.prog ⟨fnOf, specB, 0⟩ := by
  intro f g h
  have h : (match newB f with | some g => some g | none => specA f) = some g := h
  unfold newB at h
  split at h
  · rename_i g' hq
    split at hq
    · cases hq; cases h; exact spec_b1 31 _ rfl
    · cases hq; cases h; exact spec_b1 32 _ rfl
    · cases hq; cases h; exact spec_b2 33 _ rfl
    · cases hq; cases h; exact spec_b2 30 _ rfl
    · cases hq
  · exact spec_a f g h
end Go.Proofs.Ytnphdnokedhhkaa.Fw
namespace Go.Proofs.Ytnphdnokedhhkaa.Fw
open Go Go.RowKit
/-- a float in parts of 2^-6, and of 2^-12 -/
def sx (x : Nat) : Int := fv x / 2 ^ 1068
theorem six_sx {m : Int} {x : Nat} (h : six m x) : sx x = m := by
  unfold sx; rw [h.2]; exact Int.mul_ediv_cancel _ (pow_ne _)
abbrev CI := Int × Int
def addI (a b : CI) : CI := (a.1 + b.1, a.2 + b.2)
def timI (a b : CI) : CI := (a.1 * b.1 - a.2 * b.2, a.1 * b.2 + a.2 * b.1)
def sxC (z : Nat × Nat) : CI := (sx z.1, sx z.2)
/-- a number whose parts are so many parts of 2^-6, 2^-12 -/
def sixC (m : CI) (z : Nat × Nat) : Prop := six m.1 z.1 ∧ six m.2 z.2
def gridC (m : CI) (z : Nat × Nat) : Prop := grid m.1 z.1 ∧ grid m.2 z.2
theorem sixC_sx {m : CI} {z : Nat × Nat} (h : sixC m z) : sxC z = m := by
  obtain ⟨a, b⟩ := m
  unfold sxC; rw [six_sx h.1, six_sx h.2]
theorem okTap_six {z : Nat × Nat} (h : okTap z = true) : sixC (sxC z) z ∧ (sxC z).1.natAbs ≤ 64 ∧ (sxC z).2.natAbs ≤ 64 := by
  unfold okTap at h
  rw [Bool.and_eq_true] at h
  obtain ⟨a, ha, a2⟩ := plain_six h.1
  obtain ⟨b, hb, b2⟩ := plain_six h.2
  have e : sxC z = (a, b) := sixC_sx (m := (a, b)) ⟨ha, hb⟩
  rw [e]
  exact ⟨⟨ha, hb⟩, a2, b2⟩
def tat (ts : List (Nat × Nat)) (k : Nat) : CI := sxC (ts.getD k (0, 0))
/-- the sum over taps -/
def conv (h : Nat → CI) (x : Int → CI) (ap : Nat) (at' : Int) : Nat → CI
  | 0 => (0, 0)
  | k + 1 => addI (conv h x ap at' k) (timI (h k) (x (at' - (k * ap : Nat))))
/-- bounded by the taps' sum -/
def absI (a : CI) : Nat := a.1.natAbs + a.2.natAbs
def sumA (h : Nat → CI) : Nat → Nat
  | 0 => 0
  | k + 1 => sumA h k + absI (h k)
theorem gridC_zero : gridC (0, 0) (0, 0) := ⟨grid_zero0, grid_zero0⟩
theorem chk_parts {rate delay : Int} {ts es : List (Nat × Nat)} (h : chkT rate delay ts es = 0) : (1 ≤ rate ∧ rate ≤ 8 ∧ 0 ≤ delay ∧ delay ≤ 65536) ∧ (0 < ts.length ∧ ts.length ≤ 64 ∧ ∀ i, i < ts.length → okTap (ts.getD i (0, 0)) = true) ∧ (es.length ≤ 64 ∧ ∀ i, i < es.length → okTap (es.getD i (0, 0)) = true) := by
  obtain ⟨r1, r2, q1, q2, t1, t2⟩ := chkT_ok h
  obtain ⟨u1, u2, u3, _⟩ := tapsF_is.1 t1
  refine ⟨⟨r1, r2, q1, q2⟩, ⟨u1, u2, u3⟩, ?_⟩
  rcases t2 with h | h
  · exact ⟨by omega, fun i hi => by omega⟩
  · exact ⟨(tapsF_is.1 h).2.1, (tapsF_is.1 h).2.2.1⟩
end Go.Proofs.Ytnphdnokedhhkaa.Fw
namespace Go.Proofs.Ytnphdnokedhhkaa.Fw
open Go Go.RowKit
theorem sP_val {zs : List (Nat × Nat)} : ∀ i, i ≤ 64 → (∀ j, j < i → okTap (zs.getD j (0, 0)) = true) → six (sumA (tat zs) i : Int) (sP zs i) ∧ sumA (tat zs) i ≤ 128 * i
  | 0, _, _ => ⟨six_zero, Nat.zero_le _⟩
  | i + 1, hi, h => by
    obtain ⟨s1, s2⟩ := sP_val i (by omega) fun j hj => h j (by omega)
    obtain ⟨hz, h1, h2⟩ := okTap_six (h i (by omega))
    obtain ⟨a1, _⟩ := six_abs hz.1
    obtain ⟨b1, _⟩ := six_abs hz.2
    have e : sumA (tat zs) (i + 1) = sumA (tat zs) i + ((sxC (zs.getD i (0, 0))).1.natAbs + (sxC (zs.getD i (0, 0))).2.natAbs) := rfl
    rw [e]
    generalize sxC (zs.getD i (0, 0)) = v at *
    refine ⟨?_, by omega⟩
    have := six_add s1 (six_add a1 b1 (by omega)) (by omega)
    rwa [← Int.natCast_add, ← Int.natCast_add] at this
theorem four_val : fv 4616189618054758400 = 256 * 2 ^ 1068 := by
  have h := fofInt_exact (n := 4) (by decide)
  have e : fofInt 4 = 4616189618054758400 := by kernel_rfl
  rw [e] at h
  rw [h.2, show (256 : Int) = 4 * 2 ^ 6 from rfl, Int.mul_assoc, ← Int.pow_add]
theorem six_le4 {m : Int} {x : Nat} (h : six m x) : fle x 4616189618054758400 = decide (m ≤ 256) := by
  rw [fle_fin h.1 fin4, h.2, four_val]
  have hp : (0 : Int) < 2 ^ 1068 := Int.pow_pos (by decide)
  exact decide_eq_decide.2 ⟨fun h => Int.le_of_mul_le_mul_right h hp, fun h => Int.mul_le_mul_of_nonneg_right h (Int.le_of_lt hp)⟩
/-- taps, by their whole numbers -/
theorem okTap_of {z : Nat × Nat} {m : CI} (h : sixC m z) (h1 : m.1.natAbs ≤ 64) (h2 : m.2.natAbs ≤ 64) : okTap z = true := by
  unfold okTap
  rw [Bool.and_eq_true]
  have key : ∀ {k : Int} {x : Nat}, six k x → k.natAbs ≤ 64 → plainF x one = true := fun {k x} h hk => by
    have hle : fle (absF x) 4607182418800017408 = true := by
      rw [fle_rk, (absF_rk x).1, (absF_rk x).2, fin_num h.1, rk_fin h.1, h.2]
      have r1 : rk 4607182418800017408 = 2 ^ 1074 := rk_one
      have r2 : isNaN 4607182418800017408 = false := by decide
      rw [r1, r2]
      simp only [Bool.not_false, Bool.true_and]
      refine decide_eq_true ?_
      rw [Int.natAbs_mul, Int.natAbs_pow]
      have p : (2 : Int) ^ 1074 = ((64 * 2 ^ 1068 : Nat) : Int) := by
        rw [Int.natCast_mul, Int.natCast_pow, show ((64 : Nat) : Int) = 2 ^ 6 from rfl]
        show _ = (2 : Int) ^ 6 * 2 ^ 1068
        rw [← Int.pow_add]
      rw [p]
      exact Int.ofNat_le.2 (Nat.mul_le_mul_right _ hk)
    obtain ⟨g1, g2, _⟩ := mul64 okM_one hle
    obtain ⟨z1, z2⟩ := fint_zero g1
    unfold plainF
    rw [show fle (absF x) one = true from hle, Bool.true_and, feq_fin z1 g1, z2, g2, h.2]
    refine decide_eq_true ?_
    have p : (k * 2 ^ 1068 * 2 ^ 6 : Int) = k * 2 ^ 1074 := by rw [Int.mul_assoc, ← Int.pow_add]
    rw [p, Int.mul_tdiv_cancel _ (pow_ne _)]
  exact ⟨key h.1 h1, key h.2 h2⟩
theorem ptOK_of {z : Nat × Nat} {m : CI} (h : sixC m z) (h1 : m.1.natAbs ≤ 8192) (h2 : m.2.natAbs ≤ 8192) : ptOK z = true := by
  unfold ptOK
  rw [Bool.and_eq_true]
  have key : ∀ {k : Int} {x : Nat}, six k x → k.natAbs ≤ 8192 → plainF x 4638707616191610880 = true := fun {k x} h hk => by
    have hle : fle (absF x) 4638707616191610880 = true := by
      rw [fle_rk, (absF_rk x).1, (absF_rk x).2, fin_num h.1, rk_fin h.1, h.2]
      have r1 : rk 4638707616191610880 = 2 ^ 1081 := of_decide_eq_true (by kernel_rfl)
      have r2 : isNaN 4638707616191610880 = false := by decide
      rw [r1, r2]
      simp only [Bool.not_false, Bool.true_and]
      refine decide_eq_true ?_
      rw [Int.natAbs_mul, Int.natAbs_pow]
      have p : (2 : Int) ^ 1081 = ((8192 * 2 ^ 1068 : Nat) : Int) := by
        rw [Int.natCast_mul, Int.natCast_pow, show ((8192 : Nat) : Int) = 2 ^ 13 from rfl]
        show _ = (2 : Int) ^ 13 * 2 ^ 1068
        rw [← Int.pow_add]
      rw [p]
      exact Int.ofNat_le.2 (Nat.mul_le_mul_right _ hk)
    obtain ⟨g1, g2, _⟩ := mul64 (.inr rfl) hle
    obtain ⟨z1, z2⟩ := fint_zero g1
    unfold plainF
    rw [hle, Bool.true_and, feq_fin z1 g1, z2, g2, h.2]
    refine decide_eq_true ?_
    have p : (k * 2 ^ 1068 * 2 ^ 6 : Int) = k * 2 ^ 1074 := by rw [Int.mul_assoc, ← Int.pow_add]
    rw [p, Int.mul_tdiv_cancel _ (pow_ne _)]
  exact ⟨key h.1 h1, key h.2 h2⟩
theorem tapsF_of {zs : List (Nat × Nat)} (h1 : 0 < zs.length) (h2 : zs.length ≤ 64) (h3 : ∀ i, i < zs.length → okTap (zs.getD i (0, 0)) = true) (h4 : sumA (tat zs) zs.length ≤ 256) : tapsF zs = true := by
  refine tapsF_is.2 ⟨h1, h2, h3, ?_⟩
  obtain ⟨s1, _⟩ := sP_val zs.length h2 (fun j hj => h3 j hj)
  rw [six_le4 s1]
  exact decide_eq_true (by omega)
theorem rowF_of {xs : List (Nat × Nat)} (h : ∀ i, i < xs.length → ∃ m : CI, sixC m (xs.getD i (0, 0)) ∧ m.1.natAbs ≤ 8192 ∧ m.2.natAbs ≤ 8192) : rowF xs = true :=
  rowF_is.2 fun i hi => by
    obtain ⟨m, h1, h2, h3⟩ := h i hi
    exact ptOK_of h1 h2 h3
/-- a quotient by 64 -/
theorem div64 {a : Int} (h : a.natAbs < 2 ^ 53) : six a (fdiv (fofInt a) 4634204016564240384) := by
  obtain ⟨f1, f2⟩ := fofInt_exact h
  exact whole_div6 h f1 f2
end Go.Proofs.Ytnphdnokedhhkaa.Fw
namespace Go.Proofs.Ytnphdnokedhhkaa.Fw
open Go Go.RowKit
end Go.Proofs.Ytnphdnokedhhkaa.Fw
namespace Go.Proofs.Ytnphdnokedhhkaa.Fw
open Go Go.RowKit

end Go.Proofs.Ytnphdnokedhhkaa.Fw
namespace Go.Proofs.Ytnphdnokedhhkaa.Fw
open Go Go.RowKit
def quarters (k : Int) : Nat := (k % 4).toNat
section
variable {L n a b : Nat} {k : Int}
end
end Go.Proofs.Ytnphdnokedhhkaa.Fw
namespace Go.Proofs.Ytnphdnokedhhkaa.Fw
open Go Go.RowKit

end Go.Proofs.Ytnphdnokedhhkaa.Fw
namespace Go.Proofs.Ytnphdnokedhhkaa.Fw
open Go Go.RowKit
end Go.Proofs.Ytnphdnokedhhkaa.Fw
namespace Go.Proofs.Ytnphdnokedhhkaa.Fw
open Go Go.RowKit
end Go.Proofs.Ytnphdnokedhhkaa.Fw
namespace Go.Proofs.Ytnphdnokedhhkaa.Fw
open Go Go.RowKit Go.Lib Go.Proofs.Ytnphdnokedhhkaa
end Go.Proofs.Ytnphdnokedhhkaa.Fw
namespace Go.Proofs.Ytnphdnokedhhkaa.Fw
open Go Go.RowKit

end Go.Proofs.Ytnphdnokedhhkaa.Fw
namespace Go.Proofs.Ytnphdnokedhhkaa.Fw
open Go Go.RowKit
section
variable {L n : Nat} {rate delay k : Int} {ts es : List (Nat × Nat)}
end
end Go.Proofs.Ytnphdnokedhhkaa.Fw
namespace Go.Proofs.Ytnphdnokedhhkaa.Fw
open Go Go.RowKit
theorem works_den : den ⟨fnOf, specV, 300⟩ 12 35 [] = some (.v (.bool true)) := by kernel_rfl
def wkSem : List AV → Option AV
  | [] => some (.v (.bool true))
  | _ => none
def newWk : FuncId → Option (List AV → Option AV)
  | 35 => some wkSem
  | _ => none
/-- works, beside what is spoken for with nil lists -/
def specVW : FuncId → Option (List AV → Option AV) := fun f => match newWk f with | some g => some g | none => specV f
theorem spec_vw : SpecOk Try.prog ⟨fnOf, specVW, 0⟩ :=
  spec_adds spec_v (fun L => fnsOk _ _) follows newWk fun f g h => by
    unfold newWk at h
    split at h
    · cases h
      refine ⟨⟨_, Try.func35, ne_of_beq_false (by kernel_rfl), by kernel_rfl⟩, fun avs r h => ?_⟩
      unfold wkSem at h
      split at h
      · cases h; exact told (P := ⟨fnOf, specV, 0⟩) ⟨300, 12, works_den⟩
      · cases h
    · cases h
end Go.Proofs.Ytnphdnokedhhkaa.Fw
namespace Go.Proofs.Ytnphdnokedhhkaa.Fw
open Go Go.RowKit
abbrev HLwOuAspecK (L n : Nat) : Con → Prop := Con.holds ⟨fnOf, specK, L⟩ (runF ⟨fnOf, specK, L⟩ n)
theorem hnLwOuA {P : Prog} {C : Caller} : Holds P C [] := trivial
theorem hcLwOuA {P : Prog} {C : Caller} {c : Con} {cs : List Con} (h : c.holds P C) (t : Holds P C cs) : Holds P C (c :: cs) := ⟨h, t⟩
theorem hbLwOuA {P : Prog} {C : Caller} {x y : Bool} {cs : List Con} (h : x = y) (t : Holds P C cs) : Holds P C (.b x y :: cs) := ⟨h, t⟩

def fiSt (ps : List Int) (most : Int) (zs : List (Nat × Nat)) (left : Int) (st : List Nat) (o : Nat) (i : Int) : St := ⟨[(0, .lst 1 (ps.map celI)), (1, .int .i64 most), (5, .int .i64 left), (6, .slc ⟨0,6,1000⟩ st 1 0 o false), (7, .int .i64 i)], [(⟨0,6,1000⟩, ⟨st, zs.map celC, 1, true⟩)], 0⟩
def plSt (ps : List Int) (unit size most : Int) (zs : List (Nat × Nat)) (st : List Nat) (o : Nat) (i : Int) : St := ⟨[(0, .lst 1 (ps.map celI)), (1, .int .i64 unit), (2, .int .i64 size), (3, .int .i64 most), (9, .slc ⟨0,9,1000⟩ st 1 0 o false), (10, .int .i64 i)], [(⟨0,9,1000⟩, ⟨st, zs.map celC, 1, true⟩)], 0⟩
theorem fil_0 {L n : Nat} {ps : List Int} {most left k unit size i : Int} {zs : List (Nat × Nat)} {o : Nat} {st π : List Nat} (h0 : HLwOuAspecK L n (.loop 0 [0, 1, 5, 6, 7] m55b0 [4] (.mk [(0, (.lst 1 (List.map celI ps))), (1, (.v (.int .i64 (most)))), (5, (.v (.int .i64 256))), (6, (.slc (.mk 0 6 1000) [4] 1 0 0 false)), (7, (.v (.int .i64 0)))] [((.mk 0 6 1000), (.mk [4] [] 1 true))] 0) (.exit 0) (.mk [(0, (.lst 1 (List.map celI ps))), (1, (.v (.int .i64 (most)))), (5, (.v (.int .i64 (left)))), (6, (.slc (.mk 0 6 1000) (st) 1 0 (o) false)), (7, (.v (.int .i64 (i))))] [((.mk 0 6 1000), (.mk (st) (List.map celC zs) 1 true))] 0))) (h1 : HLwOuAspecK L n (.le (o) (List.length (List.map celC zs)))) : den ⟨fnOf, specK, L⟩ (n+1) 55 [.lst 1 (ps.map celI), .int .i64 most] = some (.own 1 (List.take (o) (List.map celC zs)) true) :=
  denD_sound (q := [((some 200000), (Dec.loop (.exit 0) (.mk [(0, (.lst 1 (List.map celI ps))), (1, (.v (.int .i64 (most)))), (5, (.v (.int .i64 (left)))), (6, (.slc (.mk 0 6 1000) (st) 1 0 (o) false)), (7, (.v (.int .i64 (i))))] [((.mk 0 6 1000), (.mk (st) (List.map celC zs) 1 true))] 0)))]) (by kernel_rfl) (hcLwOuA h0 (hcLwOuA (c := (.st (st) (st))) rfl (hcLwOuA h1 hnLwOuA)))
theorem flr_0 {L n : Nat} {ps : List Int} {most left k unit size i : Int} {zs : List (Nat × Nat)} {o : Nat} {st π : List Nat} {j : Nat} {x25 : Int} {x31 : Int} (h0 : (decide (IntKind.wrap .i64 (i + 1) < (↑(List.map celI ps).length : Int))) = true) (h1 : (decide ((↑o : Int) < most)) = true) (h2 : HLwOuAspecK L n (.el (List.map celI ps) (.v (.int .i64 (i))) [(.v (.int .i64 (x25)))])) (h3 : HLwOuAspecK L n (.el (List.map celI ps) (.v (.int .i64 (IntKind.wrap .i64 (i + 1)))) [(.v (.int .i64 (x31)))])) (h4 : (decide ((if IntKind.wrap .i64 (0 - x25.tmod (65)) > x25.tmod (65) then IntKind.wrap .i64 (0 - x25.tmod (65)) else x25.tmod (65)) > left)) = true) (h5 : (decide ((if IntKind.wrap .i64 (0 - x31.tmod (65)) > x31.tmod (65) then IntKind.wrap .i64 (0 - x31.tmod (65)) else x31.tmod (65)) > IntKind.wrap .i64 (left - if IntKind.wrap .i64 (0 - 0) > 0 then IntKind.wrap .i64 (0 - 0) else 0))) = true) (h6 : HLwOuAspecK L n (.push (o) 1 16 (List.map celC zs))) : rnd 0 [0, 1, 5, 6, 7] (bodyOf ⟨fnOf, specK, L⟩ (runF ⟨fnOf, specK, L⟩ n) 0 m55b0 (j :: π) (fiSt ps most zs left st o i : St)) = some (.nrm, (.mk [(0, (.lst 1 (List.map celI ps))), (1, (.v (.int .i64 (most)))), (5, (.v (.int .i64 (IntKind.wrap .i64 (IntKind.wrap .i64 (left - if IntKind.wrap .i64 (0 - 0) > 0 then IntKind.wrap .i64 (0 - 0) else 0) - if IntKind.wrap .i64 (0 - 0) > 0 then IntKind.wrap .i64 (0 - 0) else 0))))), (6, (.slc (.mk 0 6 1000) ([61, (j)] ++ (π)) 1 0 (o + 1) false)), (7, (.v (.int .i64 (IntKind.wrap .i64 (i + 2)))))] [((.mk 0 6 1000), (.mk ([61, (j)] ++ (π)) ((List.map celC zs) ++ [[(AV.cpx 0 0)]]) 1 true))] 0)) :=
  rndD_sound (q := [((some 15), (Dec.b true)), ((some 20), (Dec.b true)), ((some 25), (Dec.el [(.v (.int .i64 (x25)))])), ((some 31), (Dec.el [(.v (.int .i64 (x31)))])), ((some 39), (Dec.b true)), ((some 51), (Dec.b true)), ((some 67), Dec.push)]) (by kernel_rfl) (hbLwOuA h0 (hbLwOuA h1 (hcLwOuA h2 (hcLwOuA h3 (hbLwOuA h4 (hbLwOuA h5 (hcLwOuA (c := (.st (st) (st))) rfl (hcLwOuA h6 (hcLwOuA (c := (.st ([60, (j)] ++ (π)) ([60, (j)] ++ (π)))) rfl hnLwOuA)))))))))
theorem flr_1 {L n : Nat} {ps : List Int} {most left k unit size i : Int} {zs : List (Nat × Nat)} {o : Nat} {st π : List Nat} {j : Nat} {x25 : Int} {x31 : Int} (h0 : (decide (IntKind.wrap .i64 (i + 1) < (↑(List.map celI ps).length : Int))) = true) (h1 : (decide ((↑o : Int) < most)) = true) (h2 : HLwOuAspecK L n (.el (List.map celI ps) (.v (.int .i64 (i))) [(.v (.int .i64 (x25)))])) (h3 : HLwOuAspecK L n (.el (List.map celI ps) (.v (.int .i64 (IntKind.wrap .i64 (i + 1)))) [(.v (.int .i64 (x31)))])) (h4 : (decide ((if IntKind.wrap .i64 (0 - x25.tmod (65)) > x25.tmod (65) then IntKind.wrap .i64 (0 - x25.tmod (65)) else x25.tmod (65)) > left)) = true) (h5 : (decide ((if IntKind.wrap .i64 (0 - x31.tmod (65)) > x31.tmod (65) then IntKind.wrap .i64 (0 - x31.tmod (65)) else x31.tmod (65)) > IntKind.wrap .i64 (left - if IntKind.wrap .i64 (0 - 0) > 0 then IntKind.wrap .i64 (0 - 0) else 0))) = false) (h6 : HLwOuAspecK L n (.push (o) 1 16 (List.map celC zs))) : rnd 0 [0, 1, 5, 6, 7] (bodyOf ⟨fnOf, specK, L⟩ (runF ⟨fnOf, specK, L⟩ n) 0 m55b0 (j :: π) (fiSt ps most zs left st o i : St)) = some (.nrm, (.mk [(0, (.lst 1 (List.map celI ps))), (1, (.v (.int .i64 (most)))), (5, (.v (.int .i64 (IntKind.wrap .i64 (IntKind.wrap .i64 (left - if IntKind.wrap .i64 (0 - 0) > 0 then IntKind.wrap .i64 (0 - 0) else 0) - if IntKind.wrap .i64 (0 - x31.tmod (65)) > x31.tmod (65) then IntKind.wrap .i64 (0 - x31.tmod (65)) else x31.tmod (65)))))), (6, (.slc (.mk 0 6 1000) ([60, (j)] ++ (π)) 1 0 (o + 1) false)), (7, (.v (.int .i64 (IntKind.wrap .i64 (i + 2)))))] [((.mk 0 6 1000), (.mk ([60, (j)] ++ (π)) ((List.map celC zs) ++ [[(AV.cpx 0 (fdiv (fofInt (x31.tmod (65))) 4634204016564240384))]]) 1 true))] 0)) :=
  rndD_sound (q := [((some 15), (Dec.b true)), ((some 20), (Dec.b true)), ((some 25), (Dec.el [(.v (.int .i64 (x25)))])), ((some 31), (Dec.el [(.v (.int .i64 (x31)))])), ((some 39), (Dec.b true)), ((some 51), (Dec.b false)), ((some 67), Dec.push)]) (by kernel_rfl) (hbLwOuA h0 (hbLwOuA h1 (hcLwOuA h2 (hcLwOuA h3 (hbLwOuA h4 (hbLwOuA h5 (hcLwOuA (c := (.st (st) (st))) rfl (hcLwOuA h6 (hcLwOuA (c := (.st ([59, (j)] ++ (π)) ([59, (j)] ++ (π)))) rfl hnLwOuA)))))))))
theorem flr_2 {L n : Nat} {ps : List Int} {most left k unit size i : Int} {zs : List (Nat × Nat)} {o : Nat} {st π : List Nat} {j : Nat} {x25 : Int} {x31 : Int} (h0 : (decide (IntKind.wrap .i64 (i + 1) < (↑(List.map celI ps).length : Int))) = true) (h1 : (decide ((↑o : Int) < most)) = true) (h2 : HLwOuAspecK L n (.el (List.map celI ps) (.v (.int .i64 (i))) [(.v (.int .i64 (x25)))])) (h3 : HLwOuAspecK L n (.el (List.map celI ps) (.v (.int .i64 (IntKind.wrap .i64 (i + 1)))) [(.v (.int .i64 (x31)))])) (h4 : (decide ((if IntKind.wrap .i64 (0 - x25.tmod (65)) > x25.tmod (65) then IntKind.wrap .i64 (0 - x25.tmod (65)) else x25.tmod (65)) > left)) = false) (h5 : (decide ((if IntKind.wrap .i64 (0 - x31.tmod (65)) > x31.tmod (65) then IntKind.wrap .i64 (0 - x31.tmod (65)) else x31.tmod (65)) > IntKind.wrap .i64 (left - if IntKind.wrap .i64 (0 - x25.tmod (65)) > x25.tmod (65) then IntKind.wrap .i64 (0 - x25.tmod (65)) else x25.tmod (65)))) = true) (h6 : HLwOuAspecK L n (.push (o) 1 16 (List.map celC zs))) : rnd 0 [0, 1, 5, 6, 7] (bodyOf ⟨fnOf, specK, L⟩ (runF ⟨fnOf, specK, L⟩ n) 0 m55b0 (j :: π) (fiSt ps most zs left st o i : St)) = some (.nrm, (.mk [(0, (.lst 1 (List.map celI ps))), (1, (.v (.int .i64 (most)))), (5, (.v (.int .i64 (IntKind.wrap .i64 (IntKind.wrap .i64 (left - if IntKind.wrap .i64 (0 - x25.tmod (65)) > x25.tmod (65) then IntKind.wrap .i64 (0 - x25.tmod (65)) else x25.tmod (65)) - if IntKind.wrap .i64 (0 - 0) > 0 then IntKind.wrap .i64 (0 - 0) else 0))))), (6, (.slc (.mk 0 6 1000) ([60, (j)] ++ (π)) 1 0 (o + 1) false)), (7, (.v (.int .i64 (IntKind.wrap .i64 (i + 2)))))] [((.mk 0 6 1000), (.mk ([60, (j)] ++ (π)) ((List.map celC zs) ++ [[(AV.cpx (fdiv (fofInt (x25.tmod (65))) 4634204016564240384) 0)]]) 1 true))] 0)) :=
  rndD_sound (q := [((some 15), (Dec.b true)), ((some 20), (Dec.b true)), ((some 25), (Dec.el [(.v (.int .i64 (x25)))])), ((some 31), (Dec.el [(.v (.int .i64 (x31)))])), ((some 39), (Dec.b false)), ((some 51), (Dec.b true)), ((some 67), Dec.push)]) (by kernel_rfl) (hbLwOuA h0 (hbLwOuA h1 (hcLwOuA h2 (hcLwOuA h3 (hbLwOuA h4 (hbLwOuA h5 (hcLwOuA (c := (.st (st) (st))) rfl (hcLwOuA h6 (hcLwOuA (c := (.st ([59, (j)] ++ (π)) ([59, (j)] ++ (π)))) rfl hnLwOuA)))))))))
theorem flr_3 {L n : Nat} {ps : List Int} {most left k unit size i : Int} {zs : List (Nat × Nat)} {o : Nat} {st π : List Nat} {j : Nat} {x25 : Int} {x31 : Int} (h0 : (decide (IntKind.wrap .i64 (i + 1) < (↑(List.map celI ps).length : Int))) = true) (h1 : (decide ((↑o : Int) < most)) = true) (h2 : HLwOuAspecK L n (.el (List.map celI ps) (.v (.int .i64 (i))) [(.v (.int .i64 (x25)))])) (h3 : HLwOuAspecK L n (.el (List.map celI ps) (.v (.int .i64 (IntKind.wrap .i64 (i + 1)))) [(.v (.int .i64 (x31)))])) (h4 : (decide ((if IntKind.wrap .i64 (0 - x25.tmod (65)) > x25.tmod (65) then IntKind.wrap .i64 (0 - x25.tmod (65)) else x25.tmod (65)) > left)) = false) (h5 : (decide ((if IntKind.wrap .i64 (0 - x31.tmod (65)) > x31.tmod (65) then IntKind.wrap .i64 (0 - x31.tmod (65)) else x31.tmod (65)) > IntKind.wrap .i64 (left - if IntKind.wrap .i64 (0 - x25.tmod (65)) > x25.tmod (65) then IntKind.wrap .i64 (0 - x25.tmod (65)) else x25.tmod (65)))) = false) (h6 : HLwOuAspecK L n (.push (o) 1 16 (List.map celC zs))) : rnd 0 [0, 1, 5, 6, 7] (bodyOf ⟨fnOf, specK, L⟩ (runF ⟨fnOf, specK, L⟩ n) 0 m55b0 (j :: π) (fiSt ps most zs left st o i : St)) = some (.nrm, (.mk [(0, (.lst 1 (List.map celI ps))), (1, (.v (.int .i64 (most)))), (5, (.v (.int .i64 (IntKind.wrap .i64 (IntKind.wrap .i64 (left - if IntKind.wrap .i64 (0 - x25.tmod (65)) > x25.tmod (65) then IntKind.wrap .i64 (0 - x25.tmod (65)) else x25.tmod (65)) - if IntKind.wrap .i64 (0 - x31.tmod (65)) > x31.tmod (65) then IntKind.wrap .i64 (0 - x31.tmod (65)) else x31.tmod (65)))))), (6, (.slc (.mk 0 6 1000) ([59, (j)] ++ (π)) 1 0 (o + 1) false)), (7, (.v (.int .i64 (IntKind.wrap .i64 (i + 2)))))] [((.mk 0 6 1000), (.mk ([59, (j)] ++ (π)) ((List.map celC zs) ++ [[(AV.cpx (fdiv (fofInt (x25.tmod (65))) 4634204016564240384) (fdiv (fofInt (x31.tmod (65))) 4634204016564240384))]]) 1 true))] 0)) :=
  rndD_sound (q := [((some 15), (Dec.b true)), ((some 20), (Dec.b true)), ((some 25), (Dec.el [(.v (.int .i64 (x25)))])), ((some 31), (Dec.el [(.v (.int .i64 (x31)))])), ((some 39), (Dec.b false)), ((some 51), (Dec.b false)), ((some 67), Dec.push)]) (by kernel_rfl) (hbLwOuA h0 (hbLwOuA h1 (hcLwOuA h2 (hcLwOuA h3 (hbLwOuA h4 (hbLwOuA h5 (hcLwOuA (c := (.st (st) (st))) rfl (hcLwOuA h6 (hcLwOuA (c := (.st ([58, (j)] ++ (π)) ([58, (j)] ++ (π)))) rfl hnLwOuA)))))))))
theorem flr_4 {L n : Nat} {ps : List Int} {most left k unit size i : Int} {zs : List (Nat × Nat)} {o : Nat} {st π : List Nat} {j : Nat} (h0 : (decide (IntKind.wrap .i64 (i + 1) < (↑(List.map celI ps).length : Int))) = true) (h1 : (decide ((↑o : Int) < most)) = false) : rnd 0 [0, 1, 5, 6, 7] (bodyOf ⟨fnOf, specK, L⟩ (runF ⟨fnOf, specK, L⟩ n) 0 m55b0 (j :: π) (fiSt ps most zs left st o i : St)) = some ((.exit 0), (.mk [(0, (.lst 1 (List.map celI ps))), (1, (.v (.int .i64 (most)))), (5, (.v (.int .i64 (left)))), (6, (.slc (.mk 0 6 1000) (st) 1 0 (o) false)), (7, (.v (.int .i64 (i))))] [((.mk 0 6 1000), (.mk (st) (List.map celC zs) 1 true))] 0)) :=
  rndD_sound (q := [((some 15), (Dec.b true)), ((some 20), (Dec.b false))]) (by kernel_rfl) (hbLwOuA h0 (hbLwOuA h1 hnLwOuA))
theorem flr_5 {L n : Nat} {ps : List Int} {most left k unit size i : Int} {zs : List (Nat × Nat)} {o : Nat} {st π : List Nat} {j : Nat} (h0 : (decide (IntKind.wrap .i64 (i + 1) < (↑(List.map celI ps).length : Int))) = false) : rnd 0 [0, 1, 5, 6, 7] (bodyOf ⟨fnOf, specK, L⟩ (runF ⟨fnOf, specK, L⟩ n) 0 m55b0 (j :: π) (fiSt ps most zs left st o i : St)) = some ((.exit 0), (.mk [(0, (.lst 1 (List.map celI ps))), (1, (.v (.int .i64 (most)))), (5, (.v (.int .i64 (left)))), (6, (.slc (.mk 0 6 1000) (st) 1 0 (o) false)), (7, (.v (.int .i64 (i))))] [((.mk 0 6 1000), (.mk (st) (List.map celC zs) 1 true))] 0)) :=
  rndD_sound (q := [((some 15), (Dec.b false))]) (by kernel_rfl) (hbLwOuA h0 hnLwOuA)
theorem pln_0 {L n : Nat} {ps : List Int} {most left k unit size i : Int} {zs : List (Nat × Nat)} {o : Nat} {st π : List Nat} (h0 : HLwOuAspecK L n (.loop 0 [0, 1, 2, 3, 9, 10] m38b0 [3] (.mk [(0, (.lst 1 (List.map celI ps))), (1, (.v (.int .i64 (unit)))), (2, (.v (.int .i64 (size)))), (3, (.v (.int .i64 (most)))), (9, (.slc (.mk 0 9 1000) [3] 1 0 0 false)), (10, (.v (.int .i64 0)))] [((.mk 0 9 1000), (.mk [3] [] 1 true))] 0) (.exit 0) (.mk [(0, (.lst 1 (List.map celI ps))), (1, (.v (.int .i64 (unit)))), (2, (.v (.int .i64 (size)))), (3, (.v (.int .i64 (most)))), (9, (.slc (.mk 0 9 1000) (st) 1 0 (o) false)), (10, (.v (.int .i64 (i))))] [((.mk 0 9 1000), (.mk (st) (List.map celC zs) 1 true))] 0))) (h1 : HLwOuAspecK L n (.le (o) (List.length (List.map celC zs)))) : den ⟨fnOf, specK, L⟩ (n+1) 38 [.lst 1 (ps.map celI), .int .i64 unit, .int .i64 size, .int .i64 most] = some (.own 1 (List.take (o) (List.map celC zs)) true) :=
  denD_sound (q := [((some 200000), (Dec.loop (.exit 0) (.mk [(0, (.lst 1 (List.map celI ps))), (1, (.v (.int .i64 (unit)))), (2, (.v (.int .i64 (size)))), (3, (.v (.int .i64 (most)))), (9, (.slc (.mk 0 9 1000) (st) 1 0 (o) false)), (10, (.v (.int .i64 (i))))] [((.mk 0 9 1000), (.mk (st) (List.map celC zs) 1 true))] 0)))]) (by kernel_rfl) (hcLwOuA h0 (hcLwOuA (c := (.st (st) (st))) rfl (hcLwOuA h1 hnLwOuA)))
theorem plr_0 {L n : Nat} {ps : List Int} {most left k unit size i : Int} {zs : List (Nat × Nat)} {o : Nat} {st π : List Nat} {j : Nat} {x28 : Int} {x38 : Int} (h0 : (decide (IntKind.wrap .i64 (i + 1) < (↑(List.map celI ps).length : Int))) = true) (h1 : (decide ((↑o : Int) < most)) = true) (h2 : HLwOuAspecK L n (.el (List.map celI ps) (.v (.int .i64 (i))) [(.v (.int .i64 (x28)))])) (h3 : HLwOuAspecK L n (.nz (IntKind.wrap .i64 (IntKind.wrap .i64 (size * unit) + 1)))) (h4 : HLwOuAspecK L n (.el (List.map celI ps) (.v (.int .i64 (IntKind.wrap .i64 (i + 1)))) [(.v (.int .i64 (x38)))])) (h5 : HLwOuAspecK L n (.push (o) 1 16 (List.map celC zs))) : rnd 0 [0, 1, 2, 3, 9, 10] (bodyOf ⟨fnOf, specK, L⟩ (runF ⟨fnOf, specK, L⟩ n) 0 m38b0 (j :: π) (plSt ps unit size most zs st o i : St)) = some (.nrm, (.mk [(0, (.lst 1 (List.map celI ps))), (1, (.v (.int .i64 (unit)))), (2, (.v (.int .i64 (size)))), (3, (.v (.int .i64 (most)))), (9, (.slc (.mk 0 9 1000) ([45, (j)] ++ (π)) 1 0 (o + 1) false)), (10, (.v (.int .i64 (IntKind.wrap .i64 (i + 2)))))] [((.mk 0 9 1000), (.mk ([45, (j)] ++ (π)) ((List.map celC zs) ++ [[(AV.cpx (fdiv (fofInt (x28.tmod (IntKind.wrap .i64 (IntKind.wrap .i64 (size * unit) + 1)))) (fofInt unit)) (fdiv (fofInt (x38.tmod (IntKind.wrap .i64 (IntKind.wrap .i64 (size * unit) + 1)))) (fofInt unit)))]]) 1 true))] 0)) :=
  rndD_sound (q := [((some 18), (Dec.b true)), ((some 23), (Dec.b true)), ((some 28), (Dec.el [(.v (.int .i64 (x28)))])), ((some 34), Dec.div), ((some 38), (Dec.el [(.v (.int .i64 (x38)))])), ((some 44), Dec.div), ((some 58), Dec.push)]) (by kernel_rfl) (hbLwOuA h0 (hbLwOuA h1 (hcLwOuA h2 (hcLwOuA h3 (hcLwOuA h4 (hcLwOuA h3 (hcLwOuA (c := (.st (st) (st))) rfl (hcLwOuA h5 (hcLwOuA (c := (.st ([44, (j)] ++ (π)) ([44, (j)] ++ (π)))) rfl hnLwOuA)))))))))
theorem plr_1 {L n : Nat} {ps : List Int} {most left k unit size i : Int} {zs : List (Nat × Nat)} {o : Nat} {st π : List Nat} {j : Nat} (h0 : (decide (IntKind.wrap .i64 (i + 1) < (↑(List.map celI ps).length : Int))) = true) (h1 : (decide ((↑o : Int) < most)) = false) : rnd 0 [0, 1, 2, 3, 9, 10] (bodyOf ⟨fnOf, specK, L⟩ (runF ⟨fnOf, specK, L⟩ n) 0 m38b0 (j :: π) (plSt ps unit size most zs st o i : St)) = some ((.exit 0), (.mk [(0, (.lst 1 (List.map celI ps))), (1, (.v (.int .i64 (unit)))), (2, (.v (.int .i64 (size)))), (3, (.v (.int .i64 (most)))), (9, (.slc (.mk 0 9 1000) (st) 1 0 (o) false)), (10, (.v (.int .i64 (i))))] [((.mk 0 9 1000), (.mk (st) (List.map celC zs) 1 true))] 0)) :=
  rndD_sound (q := [((some 18), (Dec.b true)), ((some 23), (Dec.b false))]) (by kernel_rfl) (hbLwOuA h0 (hbLwOuA h1 hnLwOuA))
theorem plr_2 {L n : Nat} {ps : List Int} {most left k unit size i : Int} {zs : List (Nat × Nat)} {o : Nat} {st π : List Nat} {j : Nat} (h0 : (decide (IntKind.wrap .i64 (i + 1) < (↑(List.map celI ps).length : Int))) = false) : rnd 0 [0, 1, 2, 3, 9, 10] (bodyOf ⟨fnOf, specK, L⟩ (runF ⟨fnOf, specK, L⟩ n) 0 m38b0 (j :: π) (plSt ps unit size most zs st o i : St)) = some ((.exit 0), (.mk [(0, (.lst 1 (List.map celI ps))), (1, (.v (.int .i64 (unit)))), (2, (.v (.int .i64 (size)))), (3, (.v (.int .i64 (most)))), (9, (.slc (.mk 0 9 1000) (st) 1 0 (o) false)), (10, (.v (.int .i64 (i))))] [((.mk 0 9 1000), (.mk (st) (List.map celC zs) 1 true))] 0)) :=
  rndD_sound (q := [((some 18), (Dec.b false))]) (by kernel_rfl) (hbLwOuA h0 hnLwOuA)
theorem fit_0 {L n : Nat} {rate delay att : Int} {ts es : List Int} {odd a b : Nat} {zs17 : List (Nat × Nat)} {zs20 : List (Nat × Nat)} (h0 : HLwOuAspecK L n (.call 55 [(.lst 1 (List.map celI ts)), (.v (.int .i64 64))] (.own 1 (List.map celC zs17) true))) (h1 : HLwOuAspecK L n (.call 55 [(.lst 1 (List.map celI es)), (.v (.int .i64 64))] (.own 1 (List.map celC zs20) true))) (h2 : ((↑(List.map celC zs17).length : Int) == 0) = true) (h3 : HLwOuAspecK L n (.le (List.length (List.map celC zs20)) (List.length (List.map celC zs20)))) : den ⟨fnOf, specK, L⟩ (n+1) 37 [.agg [.int .i64 rate, .int .i64 delay, .lst 1 (ts.map celI), .lst 1 (es.map celI), .flt odd, .int .i64 att]] = some (.agg [(.v (.int .i64 (IntKind.wrap .i64 (1 + IntKind.wrap .i64 ((IntKind.wrap .u64 rate).tmod (8)))))), (.v (.int .i64 (IntKind.wrap .i64 ((IntKind.wrap .u64 delay).tmod (200))))), (.own 1 [[(AV.cpx 4607182418800017408 0)]] true), (.own 1 (List.take (List.length (List.map celC zs20)) (List.map celC zs20)) true)]) :=
  denD_sound (q := [((some 17), (Dec.call (.own 1 (List.map celC zs17) true))), ((some 20), (Dec.call (.own 1 (List.map celC zs20) true))), ((some 25), (Dec.b true))]) (by kernel_rfl) (hcLwOuA (c := (.st [0] [0])) rfl (hcLwOuA (c := (.st [0] [0])) rfl (hcLwOuA (c := (.st [0] [0])) rfl (hcLwOuA h0 (hcLwOuA (c := (.st [0] [0])) rfl (hcLwOuA h1 (hcLwOuA (c := (.st [20] [20])) rfl (hcLwOuA (c := (.st [20] [20])) rfl (hbLwOuA h2 (hcLwOuA (c := (.st [20] [20])) rfl (hcLwOuA (c := (.st [20] [20])) rfl (hcLwOuA (c := (.st [1] [1])) rfl (hcLwOuA (c := (.st [26] [26])) rfl (hcLwOuA (c := (.le 1 1)) (by simp [Con.holds]) (hcLwOuA (c := (.st [1, 18] [1, 18])) rfl (hcLwOuA h3 hnLwOuA))))))))))))))))
theorem fit_1 {L n : Nat} {rate delay att : Int} {ts es : List Int} {odd a b : Nat} {zs17 : List (Nat × Nat)} {zs20 : List (Nat × Nat)} (h0 : HLwOuAspecK L n (.call 55 [(.lst 1 (List.map celI ts)), (.v (.int .i64 64))] (.own 1 (List.map celC zs17) true))) (h1 : HLwOuAspecK L n (.call 55 [(.lst 1 (List.map celI es)), (.v (.int .i64 64))] (.own 1 (List.map celC zs20) true))) (h2 : ((↑(List.map celC zs17).length : Int) == 0) = false) (h3 : HLwOuAspecK L n (.le (List.length (List.map celC zs17)) (List.length (List.map celC zs17)))) (h4 : HLwOuAspecK L n (.le (List.length (List.map celC zs20)) (List.length (List.map celC zs20)))) : den ⟨fnOf, specK, L⟩ (n+1) 37 [.agg [.int .i64 rate, .int .i64 delay, .lst 1 (ts.map celI), .lst 1 (es.map celI), .flt odd, .int .i64 att]] = some (.agg [(.v (.int .i64 (IntKind.wrap .i64 (1 + IntKind.wrap .i64 ((IntKind.wrap .u64 rate).tmod (8)))))), (.v (.int .i64 (IntKind.wrap .i64 ((IntKind.wrap .u64 delay).tmod (200))))), (.own 1 (List.take (List.length (List.map celC zs17)) (List.map celC zs17)) true), (.own 1 (List.take (List.length (List.map celC zs20)) (List.map celC zs20)) true)]) :=
  denD_sound (q := [((some 17), (Dec.call (.own 1 (List.map celC zs17) true))), ((some 20), (Dec.call (.own 1 (List.map celC zs20) true))), ((some 25), (Dec.b false))]) (by kernel_rfl) (hcLwOuA (c := (.st [0] [0])) rfl (hcLwOuA (c := (.st [0] [0])) rfl (hcLwOuA (c := (.st [0] [0])) rfl (hcLwOuA h0 (hcLwOuA (c := (.st [0] [0])) rfl (hcLwOuA h1 (hcLwOuA (c := (.st [20] [20])) rfl (hcLwOuA (c := (.st [20] [20])) rfl (hbLwOuA h2 (hcLwOuA (c := (.st [20] [20])) rfl (hcLwOuA (c := (.st [1] [1])) rfl (hcLwOuA (c := (.st [1, 15] [1, 15])) rfl (hcLwOuA h3 (hcLwOuA (c := (.st [1, 18] [1, 18])) rfl (hcLwOuA h4 hnLwOuA)))))))))))))))
end Go.Proofs.Ytnphdnokedhhkaa.Fw
namespace Go.Proofs.Ytnphdnokedhhkaa.Fw
open Go Go.RowKit
theorem u64_nonneg (x : Int) : 0 ≤ IntKind.wrap .u64 x := by
  unfold IntKind.wrap
  simp [IntKind.signed, IntKind.bits]
  omega
theorem mx_abs (a : Int) : (if -a > a then -a else a) = (a.natAbs : Int) := by split <;> omega
theorem tmod_small (x : Int) {m : Int} (h : 0 < m) : (x.tmod m).natAbs < m.natAbs := by
  rw [Int.natAbs_tmod]; exact Nat.mod_lt _ (by omega)
theorem tat_at {zs : List (Nat × Nat)} {z : Nat × Nat} {k : Nat} (h : k < zs.length) : (zs ++ [z]).getD k (0, 0) = zs.getD k (0, 0) := by
  rw [getD_apps, if_pos h]
theorem tat_last {zs : List (Nat × Nat)} {z : Nat × Nat} : (zs ++ [z]).getD zs.length (0, 0) = z := by
  rw [getD_apps, if_neg (Nat.lt_irrefl _), Nat.sub_self]; rfl
theorem sumA_app {zs : List (Nat × Nat)} {z : Nat × Nat} : ∀ k, k ≤ zs.length → sumA (tat (zs ++ [z])) k = sumA (tat zs) k
  | 0, _ => rfl
  | k + 1, h => by
    show sumA (tat (zs ++ [z])) k + absI (sxC ((zs ++ [z]).getD k (0, 0))) = sumA (tat zs) k + absI (sxC (zs.getD k (0, 0)))
    rw [sumA_app k (by omega), tat_at (by omega)]
/-- what filter keeps up -/
def okFi (zs : List (Nat × Nat)) (left : Int) : Prop := 0 ≤ left ∧ left + sumA (tat zs) zs.length = 256 ∧ ∀ j, j < zs.length → okTap (zs.getD j (0, 0)) = true
theorem okFi_up {zs : List (Nat × Nat)} {left a b : Int} (h : okFi zs left) (a1 : a.natAbs ≤ 64) (a2 : (a.natAbs : Int) ≤ left) (b1 : b.natAbs ≤ 64) (b2 : (b.natAbs : Int) ≤ left - a.natAbs) :
    okFi (zs ++ [(fdiv (fofInt a) 4634204016564240384, fdiv (fofInt b) 4634204016564240384)]) (left - a.natAbs - b.natAbs) := by
  obtain ⟨h1, h2, h3⟩ := h
  have hz : sixC (a, b) (fdiv (fofInt a) 4634204016564240384, fdiv (fofInt b) 4634204016564240384) := ⟨div64 (by omega), div64 (by omega)⟩
  refine ⟨by omega, ?_, fun j hj => ?_⟩
  · rw [List.length_append, List.length_singleton]
    generalize (fdiv (fofInt a) 4634204016564240384, fdiv (fofInt b) 4634204016564240384) = z at hz ⊢
    have es : sumA (tat (zs ++ [z])) (zs.length + 1) = sumA (tat (zs ++ [z])) zs.length + absI (sxC ((zs ++ [z]).getD zs.length (0, 0))) := rfl
    have ea : absI (a, b) = a.natAbs + b.natAbs := rfl
    rw [es, sumA_app _ (Nat.le_refl _), tat_last, sixC_sx hz, ea]
    omega
  · rw [List.length_append, List.length_singleton] at hj
    by_cases c : j < zs.length
    · rw [tat_at c]; exact h3 j c
    · rw [show j = zs.length by omega, tat_last]
      exact okTap_of hz a1 b1
section
variable {L n : Nat}
theorem filter_den {ps : List Int} (hm : ps.length ≤ 17592186044406) (hL : 100 ≤ L) : ∃ zs left, den ⟨fnOf, specK, L+1⟩ (n+1) 55 [.lst 1 (ps.map celI), .int .i64 64] = some (.own 1 (zs.map celC) true) ∧ zs.length ≤ 64 ∧ okFi zs left := by
  have hl : (ps.map celI).length = ps.length := map_len
  have e0 : IntKind.wrap .i64 (0 - 0) = 0 := by decide
  obtain ⟨s', g1, zs, left, st, i, rfl, hz, hf⟩ := loopJ (P := ⟨fnOf, specK, L+1⟩) (C := runF ⟨fnOf, specK, L+1⟩ n) (L := L) (d := 0) (live := [0, 1, 5, 6, 7]) (π := [4]) (m := m55b0) (A := fiSt ps 64 [] 256 [4] 0 0)
    (fun j s => ∃ zs left st, s = fiSt ps 64 zs left st j ((2 * j : Nat) : Int) ∧ zs.length = j ∧ okFi zs left) (fun s => ∃ zs left st i, s = fiSt ps 64 zs left st zs.length i ∧ zs.length ≤ 64 ∧ okFi zs left) (min (ps.length / 2) 64) (x := .exit 0) (by simp) rfl (by omega) ⟨[], 256, [4], rfl, rfl, by decide, rfl, fun j hj => by simp at hj⟩
    (fun j s hj hs => by
      obtain ⟨zs, left, st, rfl, hz, hf⟩ := hs
      have w1 : IntKind.wrap .i64 (((2 * j : Nat) : Int) + 1) = ((2 * j + 1 : Nat) : Int) := by rw [wrap_id (by omega)]; omega
      have w2 : IntKind.wrap .i64 (((2 * j : Nat) : Int) + 2) = ((2 * (j + 1) : Nat) : Int) := by rw [wrap_id (by omega)]; omega
      have he := elD_map (P := ⟨fnOf, specK, L+1⟩) (C := runF ⟨fnOf, specK, L+1⟩ n) (f := celI) (d := 0) (show 2 * j < ps.length by omega)
      have hf2 := elD_map (P := ⟨fnOf, specK, L+1⟩) (C := runF ⟨fnOf, specK, L+1⟩ n) (f := celI) (d := 0) (show 2 * j + 1 < ps.length by omega)
      have hp : Con.holds ⟨fnOf, specK, L+1⟩ (runF ⟨fnOf, specK, L+1⟩ n) (.push j 1 16 (zs.map celC)) := push_ok (by rw [map_len, hz]) (by simp only [most]; omega)
      have hd : decide (IntKind.wrap .i64 (((2 * j : Nat) : Int) + 1) < ((ps.map celI).length : Int)) = true := by rw [w1, hl]; exact dT (by omega)
      have hd2 : decide ((j : Int) < (64 : Int)) = true := dT (by omega)
      have hl0 : left ≤ 256 := by obtain ⟨_, h2, _⟩ := hf; omega
      have hl1 : 0 ≤ left := hf.1
      generalize ps.getD (2 * j) 0 = x at he
      generalize ps.getD (2 * j + 1) 0 = y at hf2
      have ax := tmod_small x (m := 65) (by decide)
      have ay := tmod_small y (m := 65) (by decide)
      rw [← w1] at hf2
      have F0 := @flr_0 (L+1) n ps 64 left 0 0 0 ((2 * j : Nat) : Int) zs j st [4] j x y hd hd2 he hf2
      have F1 := @flr_1 (L+1) n ps 64 left 0 0 0 ((2 * j : Nat) : Int) zs j st [4] j x y hd hd2 he hf2
      have F2 := @flr_2 (L+1) n ps 64 left 0 0 0 ((2 * j : Nat) : Int) zs j st [4] j x y hd hd2 he hf2
      have F3 := @flr_3 (L+1) n ps 64 left 0 0 0 ((2 * j : Nat) : Int) zs j st [4] j x y hd hd2 he hf2
      generalize x.tmod 65 = a at *
      generalize y.tmod 65 = b at *
      have a1 : a.natAbs ≤ 64 := by omega
      have b1 : b.natAbs ≤ 64 := by omega
      have ea : IntKind.wrap .i64 (0 - a) = -a := by rw [wrap_id (by omega)]; omega
      have eb : IntKind.wrap .i64 (0 - b) = -b := by rw [wrap_id (by omega)]; omega
      have key : ∀ (a' b' : Int) (σ : List Nat), a'.natAbs ≤ 64 → (a'.natAbs : Int) ≤ left → b'.natAbs ≤ 64 → (b'.natAbs : Int) ≤ left - a'.natAbs →
          ∃ zs1 left1 st1, fiSt ps 64 (zs ++ [(fdiv (fofInt a') 4634204016564240384, fdiv (fofInt b') 4634204016564240384)]) (left - a'.natAbs - b'.natAbs) σ (j + 1) ((2 * (j + 1) : Nat) : Int) = fiSt ps 64 zs1 left1 st1 (j + 1) ((2 * (j + 1) : Nat) : Int) ∧ zs1.length = j + 1 ∧ okFi zs1 left1 := fun a' b' σ q1 q2 q3 q4 =>
        ⟨_, _, _, rfl, by rw [List.length_append, List.length_singleton, hz], okFi_up hf q1 q2 q3 q4⟩
      have wl : ∀ c : Int, c.natAbs ≤ 1000 → IntKind.wrap .i64 c = c := fun c hc => wrap_id (by omega)
      by_cases c1 : (a.natAbs : Int) > left
      · by_cases c2 : (b.natAbs : Int) > left
        · have := F0 (by rw [ea, mx_abs]; exact dT c1) (by rw [eb, mx_abs, e0, ite_self, Int.sub_zero, wl _ (by omega)]; exact dT c2) hp
          rw [e0, ite_self, Int.sub_zero, Int.sub_zero, wl left (by omega), wl left (by omega), w2] at this
          obtain ⟨zs1, left1, st1, k1, k2, k3⟩ := key 0 0 _ (by decide) hl1 (by decide) (by simpa using hl1)
          refine ⟨_, this, zs1, left1, st1, ?_, k2, k3⟩
          rw [← k1]
          unfold fiSt
          rw [List.map_append, show left - ((0 : Int).natAbs : Int) - ((0 : Int).natAbs : Int) = left by simp]
          rfl
        · have := F1 (by rw [ea, mx_abs]; exact dT c1) (by rw [eb, mx_abs, e0, ite_self, Int.sub_zero, wl _ (by omega)]; exact dF c2) hp
          rw [e0, ite_self, Int.sub_zero, wl left (by omega), eb, mx_abs, wl _ (by omega), w2] at this
          obtain ⟨zs1, left1, st1, k1, k2, k3⟩ := key 0 b _ (by decide) hl1 b1 (by simp only [Int.natAbs_zero]; omega)
          refine ⟨_, this, zs1, left1, st1, ?_, k2, k3⟩
          rw [← k1]
          unfold fiSt
          rw [List.map_append, show left - ((0 : Int).natAbs : Int) - (b.natAbs : Int) = left - b.natAbs by simp]
          rfl
      · by_cases c2 : (b.natAbs : Int) > left - a.natAbs
        · have := F2 (by rw [ea, mx_abs]; exact dF c1) (by rw [eb, mx_abs, ea, mx_abs, wl _ (by omega)]; exact dT c2) hp
          rw [ea, mx_abs, e0, ite_self, Int.sub_zero, wl (left - a.natAbs) (by omega), wl (left - a.natAbs) (by omega), w2] at this
          obtain ⟨zs1, left1, st1, k1, k2, k3⟩ := key a 0 _ a1 (by omega) (by decide) (by simp only [Int.natAbs_zero]; omega)
          refine ⟨_, this, zs1, left1, st1, ?_, k2, k3⟩
          rw [← k1]
          unfold fiSt
          rw [List.map_append, show left - (a.natAbs : Int) - ((0 : Int).natAbs : Int) = left - a.natAbs by simp]
          rfl
        · have := F3 (by rw [ea, mx_abs]; exact dF c1) (by rw [eb, mx_abs, ea, mx_abs, wl _ (by omega)]; exact dF c2) hp
          rw [ea, mx_abs, eb, mx_abs, wl (left - a.natAbs) (by omega), wl _ (by omega), w2] at this
          obtain ⟨zs1, left1, st1, k1, k2, k3⟩ := key a b _ a1 (by omega) b1 (by omega)
          refine ⟨_, this, zs1, left1, st1, ?_, k2, k3⟩
          rw [← k1]
          unfold fiSt
          rw [List.map_append]
          rfl)
    (fun s hs => by
      obtain ⟨zs, left, st, rfl, hz, hf⟩ := hs
      have w1 : IntKind.wrap .i64 (((2 * min (ps.length / 2) 64 : Nat) : Int) + 1) = ((2 * min (ps.length / 2) 64 + 1 : Nat) : Int) := by rw [wrap_id (by omega)]; omega
      have ho : fiSt ps 64 zs left st (min (ps.length / 2) 64) ((2 * min (ps.length / 2) 64 : Nat) : Int) = fiSt ps 64 zs left st zs.length ((2 * min (ps.length / 2) 64 : Nat) : Int) := by rw [hz]
      by_cases c : ps.length / 2 < 64 ∧ True
      · exact ⟨_, @flr_5 (L+1) n ps 64 left 0 0 0 ((2 * min (ps.length / 2) 64 : Nat) : Int) zs (min (ps.length / 2) 64) st [4] (min (ps.length / 2) 64) (by rw [w1, hl]; exact dF (by omega)), zs, left, st, _, ho, by omega, hf⟩
      · by_cases c2 : 2 * min (ps.length / 2) 64 + 1 < ps.length
        · exact ⟨_, @flr_4 (L+1) n ps 64 left 0 0 0 ((2 * min (ps.length / 2) 64 : Nat) : Int) zs (min (ps.length / 2) 64) st [4] (min (ps.length / 2) 64) (by rw [w1, hl]; exact dT (by omega)) (dF (by omega)), zs, left, st, _, ho, by omega, hf⟩
        · exact ⟨_, @flr_5 (L+1) n ps 64 left 0 0 0 ((2 * min (ps.length / 2) 64 : Nat) : Int) zs (min (ps.length / 2) 64) st [4] (min (ps.length / 2) 64) (by rw [w1, hl]; exact dF (by omega)), zs, left, st, _, ho, by omega, hf⟩)
  have hle : Con.holds ⟨fnOf, specK, L+1⟩ (runF ⟨fnOf, specK, L+1⟩ n) (.le zs.length (List.length (zs.map celC))) := by show _ ≤ _; rw [map_len]; exact Nat.le_refl _
  have := @fil_0 (L+1) n ps 64 left 0 0 0 i zs zs.length st [] g1 hle
  rw [tkMap rfl] at this
  exact ⟨zs, left, this, hz, hf⟩
theorem chkT_zero {r d : Int} {ts es : List (Nat × Nat)} (h1 : 1 ≤ r) (h2 : r ≤ 8) (h3 : 0 ≤ d) (h4 : d ≤ 65536) (h5 : tapsF ts = true) (h6 : es.length = 0 ∨ tapsF es = true) : chkT r d ts es = 0 := by
  unfold chkT
  rw [if_neg (by omega), if_pos ⟨h5, h6⟩]
theorem okFi_taps {zs : List (Nat × Nat)} {left : Int} (h : okFi zs left) (hz : zs.length ≤ 64) (h0 : 0 < zs.length) : tapsF zs = true := by
  obtain ⟨h1, h2, h3⟩ := h
  exact tapsF_of h0 hz h3 (by omega)
theorem one_taps : tapsF [(4607182418800017408, 0)] = true := by decide +kernel
/-- a strait that may be -/
theorem fit_den {rate delay att : Int} {ts es : List Int} {odd : Nat} (m1 : ts.length ≤ 17592186044406) (m2 : es.length ≤ 17592186044406) (hL : 100 ≤ L) :
    ∃ (r d : Int) (ta ea : List (Nat × Nat)), den ⟨fnOf, specK, L+1⟩ (n+2) 37 [.agg [.int .i64 rate, .int .i64 delay, .lst 1 (ts.map celI), .lst 1 (es.map celI), .flt odd, .int .i64 att]] = some (.agg [.int .i64 r, .int .i64 d, .own 1 (ta.map celC) true, .own 1 (ea.map celC) true]) ∧ chkT r d ta ea = 0 ∧ d < 200 := by
  obtain ⟨z1, l1, d1, k1, f1⟩ := @filter_den L n ts m1 hL
  obtain ⟨z2, l2, d2, k2, f2⟩ := @filter_den L n es m2 hL
  have c1 := call_den d1
  have c2 := call_den d2
  have hr0 := Int.tmod_nonneg 8 (u64_nonneg rate)
  have hr1 := Int.tmod_lt_of_pos (IntKind.wrap .u64 rate) (b := 8) (by decide)
  have hd0 := Int.tmod_nonneg 200 (u64_nonneg delay)
  have hd1 := Int.tmod_lt_of_pos (IntKind.wrap .u64 delay) (b := 200) (by decide)
  have leq : ∀ l : List (Nat × Nat), Con.holds ⟨fnOf, specK, L+1⟩ (runF ⟨fnOf, specK, L+1⟩ (n+1)) (.le (List.length (l.map celC)) (List.length (l.map celC))) := fun l => by show _ ≤ _; exact Nat.le_refl _
  have tl : ∀ l : List (Nat × Nat), List.take (List.length (l.map celC)) (l.map celC) = l.map celC := fun l => List.take_length
  have he : z2.length = 0 ∨ tapsF z2 = true := by
    by_cases c : z2.length = 0
    · exact .inl c
    · exact .inr (okFi_taps f2 k2 (by omega))
  generalize hR : (IntKind.wrap .u64 rate).tmod 8 = R at *
  generalize hD : (IntKind.wrap .u64 delay).tmod 200 = D at *
  have w1 : IntKind.wrap .i64 R = R := wrap_id (by omega)
  have w2 : IntKind.wrap .i64 (1 + R) = 1 + R := wrap_id (by omega)
  have w3 : IntKind.wrap .i64 D = D := wrap_id (by omega)
  by_cases c : z1.length = 0
  · have := @fit_0 (L+1) (n+1) rate delay att ts es odd 0 0 z1 z2 c1 c2 (by rw [map_len, c]; rfl) (leq _)
    rw [hR, hD, w1, w2, w3, tl] at this
    exact ⟨1 + R, D, [(4607182418800017408, 0)], z2, this, chkT_zero (by omega) (by omega) (by omega) (by omega) one_taps he, hd1⟩
  · have := @fit_1 (L+1) (n+1) rate delay att ts es odd 0 0 z1 z2 c1 c2 (by rw [map_len]; exact beq_eq_false_iff_ne.2 (by omega)) (leq _) (leq _)
    rw [hR, hD, w1, w2, w3, tl, tl] at this
    exact ⟨1 + R, D, z1, z2, this, chkT_zero (by omega) (by omega) (by omega) (by omega) (okFi_taps f1 k1 (by omega)) he, hd1⟩
/-- a number of a plain row: its whole numbers; 'q' divides them -/
def plC (q : Int) (M : Nat) (z : Nat × Nat) : Prop := ∃ m : CI, sixC (m.1 * q, m.2 * q) z ∧ (m.1 * q).natAbs ≤ M ∧ (m.2 * q).natAbs ≤ M
theorem div1 {a : Int} (h : a.natAbs < 2 ^ 40) : six (a * 64) (fdiv (fofInt a) 4607182418800017408) := by
  obtain ⟨f1, f2⟩ := fofInt_exact (n := a) (by omega)
  have hr : Ieee.double.read 4607182418800017408 = .number false (2 ^ 52) ((0 : Nat) - 52 : Int) := by decide
  have hst : stout (fofInt a) := by
    unfold stout
    by_cases h0 : a = 0
    · left; rw [f2, h0, Int.zero_mul]
    · right
      rw [f2, Int.natAbs_mul, Int.natAbs_pow]
      calc 2 ^ 600 ≤ 1 * 2 ^ 1074 := by rw [Nat.one_mul]; exact Nat.pow_le_pow_right (by decide) (by decide)
        _ ≤ a.natAbs * 2 ^ 1074 := Nat.mul_le_mul_right _ (by omega)
  obtain ⟨g1, g2⟩ := fdiv_pow2 (k := 0) (V := a * 2 ^ 1074) f1 hst hr (by decide) (by rw [f2]; simp) (fits_stepI (by omega))
  refine ⟨g1, ?_⟩
  rw [g2, show (64 : Int) = 2 ^ 6 from rfl, Int.mul_assoc, ← Int.pow_add]
theorem plain10 {ps : List Int} {unit size mst q : Int} {mo : Nat} (hu : (unit = 64 ∧ q = 1) ∨ (unit = 1 ∧ q = 64)) (hs : 0 < size ∧ size ≤ 128) (hmo : mst = (mo : Int)) (hmo2 : mo ≤ 100000) (hm : ps.length ≤ 17592186044406) (hL : 100000 ≤ L) :
    ∃ zs : List (Nat × Nat), den ⟨fnOf, specK, L+1⟩ (n+1) 38 [.lst 1 (ps.map celI), .int .i64 unit, .int .i64 size, .int .i64 mst] = some (.own 1 (zs.map celC) true) ∧ zs.length ≤ mo ∧ ∀ j, j < zs.length → plC q (size.toNat * 64) (zs.getD j (0, 0)) := by
  have hl : (ps.map celI).length = ps.length := map_len
  subst hmo
  have hmul : size * unit = size * 64 ∨ size * unit = size := by rcases hu with ⟨rfl, _⟩ | ⟨rfl, _⟩ <;> omega
  have ws : IntKind.wrap .i64 (size * unit) = size * unit := wrap_id (by omega)
  have ws2 : IntKind.wrap .i64 (size * unit + 1) = size * unit + 1 := wrap_id (by omega)
  obtain ⟨s', g1, zs, st, i, rfl, hz, hf⟩ := loopJ (P := ⟨fnOf, specK, L+1⟩) (C := runF ⟨fnOf, specK, L+1⟩ n) (L := L) (d := 0) (live := [0, 1, 2, 3, 9, 10]) (π := [3]) (m := m38b0) (A := plSt ps unit size mo [] [3] 0 0)
    (fun j s => ∃ (zs : List (Nat × Nat)) (st : List Nat), s = plSt ps unit size mo zs st j ((2 * j : Nat) : Int) ∧ zs.length = j ∧ ∀ k, k < zs.length → plC q (size.toNat * 64) (zs.getD k (0, 0)))
    (fun s => ∃ (zs : List (Nat × Nat)) (st : List Nat) (i : Int), s = plSt ps unit size mo zs st zs.length i ∧ zs.length ≤ mo ∧ ∀ k, k < zs.length → plC q (size.toNat * 64) (zs.getD k (0, 0))) (min (ps.length / 2) mo) (x := .exit 0) (by simp) rfl (by omega) ⟨[], [3], rfl, rfl, fun j hj => by simp at hj⟩
    (fun j s hj hs => by
      obtain ⟨zs, st, rfl, hz, hf⟩ := hs
      have w1 : IntKind.wrap .i64 (((2 * j : Nat) : Int) + 1) = ((2 * j + 1 : Nat) : Int) := by rw [wrap_id (by omega)]; omega
      have w2 : IntKind.wrap .i64 (((2 * j : Nat) : Int) + 2) = ((2 * (j + 1) : Nat) : Int) := by rw [wrap_id (by omega)]; omega
      have he := elD_map (P := ⟨fnOf, specK, L+1⟩) (C := runF ⟨fnOf, specK, L+1⟩ n) (f := celI) (d := 0) (show 2 * j < ps.length by omega)
      have hf2 := elD_map (P := ⟨fnOf, specK, L+1⟩) (C := runF ⟨fnOf, specK, L+1⟩ n) (f := celI) (d := 0) (show 2 * j + 1 < ps.length by omega)
      have hp : Con.holds ⟨fnOf, specK, L+1⟩ (runF ⟨fnOf, specK, L+1⟩ n) (.push j 1 16 (zs.map celC)) := push_ok (by rw [map_len, hz]) (by simp only [most]; omega)
      have hd : decide (IntKind.wrap .i64 (((2 * j : Nat) : Int) + 1) < ((ps.map celI).length : Int)) = true := by rw [w1, hl]; exact dT (by omega)
      have hnz : Con.holds ⟨fnOf, specK, L+1⟩ (runF ⟨fnOf, specK, L+1⟩ n) (.nz (IntKind.wrap .i64 (IntKind.wrap .i64 (size * unit) + 1))) := by
        show _ ≠ _; rw [ws, ws2]; omega
      generalize ps.getD (2 * j) 0 = x at he
      generalize ps.getD (2 * j + 1) 0 = y at hf2
      rw [← w1] at hf2
      have := @plr_0 (L+1) n ps mo 0 0 unit size ((2 * j : Nat) : Int) zs j st [3] j x y hd (dT (by omega)) he hnz hf2 hp
      rw [w2] at this
      refine ⟨_, this, zs ++ [((fdiv (fofInt (x.tmod (IntKind.wrap .i64 (IntKind.wrap .i64 (size * unit) + 1)))) (fofInt unit)), (fdiv (fofInt (y.tmod (IntKind.wrap .i64 (IntKind.wrap .i64 (size * unit) + 1)))) (fofInt unit)))], [45, j] ++ [3], ?_, ?_, fun k hk => ?_⟩
      · unfold plSt
        rw [List.map_append]
        rfl
      · rw [List.length_append, List.length_singleton, hz]
      · rw [List.length_append, List.length_singleton] at hk
        by_cases c : k < zs.length
        · rw [tat_at c]; exact hf k c
        · rw [show k = zs.length by omega, tat_last, ws, ws2]
          have ax := tmod_small x (m := size * unit + 1) (by omega)
          have ay := tmod_small y (m := size * unit + 1) (by omega)
          generalize x.tmod (size * unit + 1) = a at *
          generalize y.tmod (size * unit + 1) = b at *
          rcases hu with ⟨rfl, rfl⟩ | ⟨rfl, rfl⟩
          · have e : fofInt 64 = 4634204016564240384 := by kernel_rfl
            rw [e]
            refine ⟨(a, b), ⟨?_, ?_⟩, ?_, ?_⟩
            · show six (a * 1) _; rw [Int.mul_one]; exact div64 (by omega)
            · show six (b * 1) _; rw [Int.mul_one]; exact div64 (by omega)
            · show (a * 1).natAbs ≤ _; omega
            · show (b * 1).natAbs ≤ _; omega
          · have e : fofInt 1 = 4607182418800017408 := by kernel_rfl
            rw [e]
            exact ⟨(a, b), ⟨div1 (by omega), div1 (by omega)⟩, by show (a * 64).natAbs ≤ _; omega, by show (b * 64).natAbs ≤ _; omega⟩)
    (fun s hs => by
      obtain ⟨zs, st, rfl, hz, hf⟩ := hs
      have w1 : IntKind.wrap .i64 (((2 * min (ps.length / 2) mo : Nat) : Int) + 1) = ((2 * min (ps.length / 2) mo + 1 : Nat) : Int) := by rw [wrap_id (by omega)]; omega
      have ho : plSt ps unit size mo zs st (min (ps.length / 2) mo) ((2 * min (ps.length / 2) mo : Nat) : Int) = plSt ps unit size mo zs st zs.length ((2 * min (ps.length / 2) mo : Nat) : Int) := by rw [hz]
      by_cases c2 : 2 * min (ps.length / 2) mo + 1 < ps.length
      · exact ⟨_, @plr_1 (L+1) n ps mo 0 0 unit size ((2 * min (ps.length / 2) mo : Nat) : Int) zs (min (ps.length / 2) mo) st [3] (min (ps.length / 2) mo) (by rw [w1, hl]; exact dT (by omega)) (dF (by omega)), zs, st, _, ho, by omega, hf⟩
      · exact ⟨_, @plr_2 (L+1) n ps mo 0 0 unit size ((2 * min (ps.length / 2) mo : Nat) : Int) zs (min (ps.length / 2) mo) st [3] (min (ps.length / 2) mo) (by rw [w1, hl]; exact dF (by omega)), zs, st, _, ho, by omega, hf⟩)
  have hle : Con.holds ⟨fnOf, specK, L+1⟩ (runF ⟨fnOf, specK, L+1⟩ n) (.le zs.length (List.length (zs.map celC))) := by show _ ≤ _; rw [map_len]; exact Nat.le_refl _
  have := @pln_0 (L+1) n ps mo 0 0 unit size i zs zs.length st [] g1 hle
  rw [tkMap rfl] at this
  exact ⟨zs, this, hz, hf⟩
end
end Go.Proofs.Ytnphdnokedhhkaa.Fw
namespace Go.Proofs.Ytnphdnokedhhkaa.Fw
open Go Go.RowKit
def newG1 : FuncId → Option (List AV → Option AV)
  | 19 => some (fun avs => pasSem false (avs.map nzA))
  | _ => none
theorem spec_G1 : SpecOk Try.prog ⟨fnOf, fun f => match newG1 f with | some g => some g | none => specX f, 0⟩ :=
  spec_adds spec_x (fun L => fnsOk _ _) follows newG1 fun f g h => by
    unfold newG1 at h
    split at h
    · cases h
      refine ⟨⟨_, Try.func19, ne_of_beq_false (by kernel_rfl), by kernel_rfl⟩, fun avs r h => ?_⟩
      have hw := wi_nz avs
      obtain ⟨rate, delay, nn, ts, es, xs, vs, he, h1, h2, h3, h4, rfl⟩ := pasSem_is h
      rw [he] at hw
      exact ⟨_, _, _, _, hw, (@pass_both 70000 0 rate delay nn ts es xs vs (Nat.le_refl _) h1 h2 h3 h4).1, pas_wk _ _⟩
    · cases h
def newG5 : FuncId → Option (List AV → Option AV)
  | 37 => some (fun avs => den ⟨fnOf, specK, 200001⟩ 2 37 avs)
  | 38 => some (fun avs => den ⟨fnOf, specK, 200001⟩ 1 38 avs)
  | 39 => some (fun avs => den ⟨fnOf, specK, 200001⟩ 2 39 avs)
  | 21 => some (fun avs => den ⟨fnOf, specK, 20000000000001⟩ 1 21 (avs.map nzA))
  | 14 => some (fun avs => den ⟨fnOf, specK, 70001⟩ 2 14 (avs.map nzA))
  | _ => none
theorem spec_G5 : SpecOk Try.prog ⟨fnOf, fun f => match newG5 f with | some g => some g | none => specK f, 0⟩ :=
  spec_adds spec_k (fun L => fnsOk _ _) follows newG5 fun f g h => by
    unfold newG5 at h
    split at h
    · cases h
      refine ⟨⟨_, Try.func37, ne_of_beq_false (by kernel_rfl), by kernel_rfl⟩, fun avs r h => ?_⟩
      exact toldZ (P := ⟨fnOf, specK, 0⟩) h (WkT.refl _)
    · cases h
      refine ⟨⟨_, Try.func38, ne_of_beq_false (by kernel_rfl), by kernel_rfl⟩, fun avs r h => ?_⟩
      exact toldZ (P := ⟨fnOf, specK, 0⟩) h (WkT.refl _)
    · cases h
      refine ⟨⟨_, Try.func39, ne_of_beq_false (by kernel_rfl), by kernel_rfl⟩, fun avs r h => ?_⟩
      exact toldZ (P := ⟨fnOf, specK, 0⟩) h (WkT.refl _)
    · cases h
      refine ⟨⟨_, Try.func21, ne_of_beq_false (by kernel_rfl), by kernel_rfl⟩, fun avs r h => ?_⟩
      exact ⟨_, _, _, _, wi_nz avs, h, WkT.refl _⟩
    · cases h
      refine ⟨⟨_, Try.func14, ne_of_beq_false (by kernel_rfl), by kernel_rfl⟩, fun avs r h => ?_⟩
      exact ⟨_, _, _, _, wi_nz avs, h, WkT.refl _⟩
    · cases h
def newG : FuncId → Option (List AV → Option AV)
  | 22 => some (fun avs => chkSem (avs.map nzA))
  | 31 => some (fun avs => arrSem false (nzR avs))
  | 35 => some wkSem
  | 19 => some (fun avs => pasSem false (avs.map nzA))
  | 37 => some (fun avs => den ⟨fnOf, specK, 200001⟩ 2 37 avs)
  | 38 => some (fun avs => den ⟨fnOf, specK, 200001⟩ 1 38 avs)
  | _ => none
def specG : FuncId → Option (List AV → Option AV) := fun f => match newG f with | some g => some g | none => specK f
theorem spec_g : SpecOk Try.prog ⟨fnOf, specG, 0⟩ := by
  intro f g h
  have h : (match newG f with | some g => some g | none => specK f) = some g := h
  unfold newG at h
  split at h
  · rename_i g' hq
    split at hq
    · cases hq; cases h; exact spec_v 22 _ rfl
    · cases hq; cases h; exact spec_b 31 _ rfl
    · cases hq; cases h; exact spec_vw 35 _ rfl
    · cases hq; cases h; exact spec_G1 19 _ rfl
    · cases hq; cases h; exact spec_G5 37 _ rfl
    · cases hq; cases h; exact spec_G5 38 _ rfl
    · cases hq
  · exact spec_k f g h
theorem spec_gL (L : Nat) : SpecOk Try.prog ⟨fnOf, specG, L⟩ := fun f g h => spec_g f g h
section
variable {P : Prog} {C : Caller}
theorem fit_toldG (hp : P.spec = specG) {rate delay att : Int} {ts es : List Int} {odd : Nat} (m1 : ts.length ≤ 17592186044406) (m2 : es.length ≤ 17592186044406) :
    ∃ (r d : Int) (ta ea : List (Nat × Nat)), Con.holds P C (.spec 37 [.agg [.int .i64 rate, .int .i64 delay, .lst 1 (ts.map celI), .lst 1 (es.map celI), .flt odd, .int .i64 att]] (.agg [.int .i64 r, .int .i64 d, .own 1 (ta.map celC) true, .own 1 (ea.map celC) true])) ∧ chkT r d ta ea = 0 ∧ d < 200 := by
  obtain ⟨r, d, ta, ea, h, h2, h3⟩ := @fit_den 200000 0 rate delay att ts es odd m1 m2 (by omega)
  exact ⟨r, d, ta, ea, spec_is (g := fun avs => den ⟨fnOf, specK, 200001⟩ 2 37 avs) (by rw [hp]; rfl) h, h2, h3⟩
theorem plain_toldG (hp : P.spec = specG) {ps : List Int} {unit size mst q : Int} {mo : Nat} (hu : (unit = 64 ∧ q = 1) ∨ (unit = 1 ∧ q = 64)) (hs : 0 < size ∧ size ≤ 128) (hmo : mst = (mo : Int)) (hmo2 : mo ≤ 100000) (hm : ps.length ≤ 17592186044406) :
    ∃ zs : List (Nat × Nat), Con.holds P C (.spec 38 [.lst 1 (ps.map celI), .int .i64 unit, .int .i64 size, .int .i64 mst] (.own 1 (zs.map celC) true)) ∧ zs.length ≤ mo ∧ ∀ j, j < zs.length → plC q (size.toNat * 64) (zs.getD j (0, 0)) := by
  obtain ⟨zs, h, h2, h3⟩ := @plain10 200000 0 ps unit size mst q mo hu hs hmo hmo2 hm (by omega)
  exact ⟨zs, spec_is (g := fun avs => den ⟨fnOf, specK, 200001⟩ 1 38 avs) (by rw [hp]; rfl) h, h2, h3⟩
theorem passE_zero {rate delay nn : Int} {ts es xs vs : List (Nat × Nat)} (h : chkT rate delay ts es = 0) (h1 : 0 ≤ nn) (h2 : nn ≤ 65536) (h3 : xs.length ≤ 65536) (h4 : vs.length ≤ 65536) (h5 : rowF xs = true) (h6 : rowF vs = true) : passE rate delay nn ts es xs vs = 0 := by
  unfold passE
  rw [if_neg (by simp [h]), if_neg (by omega), if_pos ⟨h5, h6⟩]
theorem taps_short {rate delay : Int} {ts es : List (Nat × Nat)} (h : chkT rate delay ts es = 0) : shortL ts ∧ shortL es := by
  obtain ⟨_, ⟨_, h2, _⟩, h3, _⟩ := chk_parts h
  unfold shortL; omega
end
theorem rowF_nil : rowF [] = true := rfl
theorem rowF_plC {q : Int} {M : Nat} {zs : List (Nat × Nat)} (hM : M ≤ 8192) (h : ∀ j, j < zs.length → plC q M (zs.getD j (0, 0))) : rowF zs = true :=
  rowF_of fun i hi => by
    obtain ⟨m, h1, h2, h3⟩ := h i hi
    exact ⟨_, h1, Nat.le_trans h2 hM, Nat.le_trans h3 hM⟩
end Go.Proofs.Ytnphdnokedhhkaa.Fw
namespace Go.Proofs.Ytnphdnokedhhkaa.Fw
open Go Go.RowKit

def celLg (b : (Int × Int) × (Nat × Nat) × Bool) : List AV := [.int .i64 b.1.1, .int .i64 b.1.2, .flt b.2.1.1, .flt b.2.1.2, .v (.bool b.2.2)]
end Go.Proofs.Ytnphdnokedhhkaa.Fw
namespace Go.Proofs.Ytnphdnokedhhkaa.Fw
open Go Go.RowKit

def celLb (b : (Int × Int) × (Nat × Nat) × Bool) : List AV := [.int .i64 b.1.1, .int .i64 b.1.2, .flt b.2.1.1, .flt b.2.1.2, .v (.bool b.2.2)]
end Go.Proofs.Ytnphdnokedhhkaa.Fw
namespace Go.Proofs.Ytnphdnokedhhkaa.Fw
open Go Go.RowKit

end Go.Proofs.Ytnphdnokedhhkaa.Fw
namespace Go.Proofs.Ytnphdnokedhhkaa.Fw
open Go Go.RowKit
section
variable {L n : Nat} {nn at1 rate delay att r d : Int} {re im odd : Nat} {ts es : List Int} {ta ea zl ws ov : List (Nat × Nat)} {la ln no j : Nat}
end
end Go.Proofs.Ytnphdnokedhhkaa.Fw
namespace Go.Proofs.Ytnphdnokedhhkaa.Fw
open Go Go.RowKit
section
variable {L n : Nat}
end
end Go.Proofs.Ytnphdnokedhhkaa.Fw
namespace Go.Proofs.Ytnphdnokedhhkaa.Fw
open Go Go.RowKit
section
variable {L n : Nat}
section
variable {rate delay att r d : Int} {odd : Nat} {ts es ps ks : List Int} {bs tl : List Bu} {ta ea zl ov dl wl : List (Nat × Nat)} {al bl cl : List Smp} {nz no nd nw nt na nb nc : Nat} {σ1 σ2 σ3 σ4 σ5 π : List Nat}
end
end
end Go.Proofs.Ytnphdnokedhhkaa.Fw
namespace Go.Proofs.Ytnphdnokedhhkaa.Fw
open Go Go.RowKit
/-- a sample that may be -/
def okS (s : Smp) : Prop := (∃ K : CI, gridC K s.1 ∧ K.1.natAbs ≤ 4194304 ∧ K.2.natAbs ≤ 4194304) ∧ (s.2 = true → feq s.1.1 0 = true ∧ feq s.1.2 0 = true)
theorem lost_ok : okS ((0, 0), true) := ⟨⟨(0, 0), gridC_zero, by decide, by decide⟩, fun _ => ⟨by decide, by decide⟩⟩
theorem smp_ok (z : Nat × Nat) : okS (smp false z) := by
  unfold smp
  by_cases c : wi z.1 = true ∧ wi z.2 = true
  · rw [if_pos c]
    refine ⟨⟨(nearK z.1, nearK z.2), ⟨near_grid c.1, near_grid c.2⟩, ?_, ?_⟩, fun h => by cases h⟩
    · have := nearK_le c.1; show (nearK z.1).natAbs ≤ _; omega
    · have := nearK_le c.2; show (nearK z.2).natAbs ≤ _; omega
  · rw [if_neg c]; exact lost_ok
theorem arrE_zero {rate delay nn : Int} {ts es xs vs ds : List (Nat × Nat)} {bs : List Bu} (h : passE rate delay nn ts es xs vs = 0) (h1 : ds.length ≤ 65536) (h2 : bs.length ≤ 5000) (h3 : okBs bs = true) (h4 : okDs ds = true) : arrE rate delay nn ts es xs vs ds bs = 0 := by
  unfold arrE
  rw [if_neg (by simp [h]), if_neg (by omega), if_pos h3, if_pos h4]
/-- what arrives, told -/
theorem arr_toldG {P : Prog} {C : Caller} (hp : P.spec = specG) {rate delay nn : Int} {ts es xs vs ds : List (Nat × Nat)} {bs : List Bu} {a b c dd e : AV} (ha : nz1 a = .lst 1 (es.map celC)) (hb : nzA b = .lst 1 (xs.map celC)) (hc : nzA c = .lst 1 (vs.map celC)) (hd : nzA dd = .lst 1 (ds.map celC)) (he : nz4 e = .lst 4 (bs.map celBu))
    (h : chkT rate delay ts es = 0) (h1 : 0 ≤ nn) (h2 : nn ≤ 65536) (h3 : xs.length ≤ 65536) (h4 : vs.length ≤ 65536) (h5 : rowF xs = true) (h6 : rowF vs = true) (h7 : ds.length ≤ 65536) (h8 : bs.length ≤ 5000) (h9 : okBs bs = true) (h10 : okDs ds = true) :
    Con.holds P C (.spec 31 [.agg [.int .i64 rate, .int .i64 delay, .lst 1 (ts.map celC), a], b, c, dd, e, .int .i64 nn] (.tup [.own 2 ((arrP rate delay nn ts es xs vs ds bs).map celS) true, .int .i64 0])) := by
  obtain ⟨t1, t2⟩ := taps_short h
  refine spec_is (g := fun avs => arrSem false (nzR avs)) (by rw [hp]; rfl) ?_
  have ee : nzR [.agg [.int .i64 rate, .int .i64 delay, .lst 1 (ts.map celC), a], b, c, dd, e, .int .i64 nn] = [.agg [.int .i64 rate, .int .i64 delay, .lst 1 (ts.map celC), .lst 1 (es.map celC)], .lst 1 (xs.map celC), .lst 1 (vs.map celC), .lst 1 (ds.map celC), .lst 4 (bs.map celBu), .int .i64 nn] := by
    show [AV.agg [_, _, _, nz1 a], nzA b, nzA c, nzA dd, nz4 e, _] = _
    rw [ha, hb, hc, hd, he]; rfl
  show arrSem false (nzR _) = _
  rw [ee, arrSem_at false t1 t2 (by unfold shortL; omega) (by unfold shortL; omega)]
  have e0 := arrE_zero (passE_zero h h1 h2 h3 h4 h5 h6) h7 h8 h9 h10
  unfold arrQ
  rw [if_pos e0, e0]
  rfl
theorem okBs_nil : okBs [] = true := rfl
theorem okDs_nil : okDs [] = true := rfl
theorem arrP_at {rate delay nn : Int} {ts es xs vs ds : List (Nat × Nat)} {bs : List Bu} {i : Nat} (hi : i < nn.toNat) : (arrP rate delay nn ts es xs vs ds bs).getD i sd = arrF false (passP rate delay nn ts es xs vs) ds bs i := by
  unfold arrP; rw [tab_at hi]
theorem arrP_len {rate delay nn : Int} {ts es xs vs ds : List (Nat × Nat)} {bs : List Bu} : (arrP rate delay nn ts es xs vs ds bs).length = nn.toNat := tab_len
section
variable {L n : Nat} {bs : List Bu} {nn r d ea1 eb1 : Int} {ta ea zl ol al : List (Nat × Nat)} {bl cl : List Smp} {nz no na nb : Nat}
end
end Go.Proofs.Ytnphdnokedhhkaa.Fw
