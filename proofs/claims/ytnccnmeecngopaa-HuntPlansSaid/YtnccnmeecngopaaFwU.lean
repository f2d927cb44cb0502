/- The abstract evaluator, part U: operations in no set order, whatever order they take. -/
import Derived.Test.YtnccnmeecngopaaFwT
set_option linter.unusedVariables false
set_option linter.unusedSimpArgs false
set_option linter.unnecessarySimpa false
namespace Go.Proofs.Ytnccnmeecngopaa.Fw
open Go Go.RowKit

/-- what stands in a place when the operations of 'X' have been carried out -/
def siteAt (X : Nat → Bool) (x : Site) : Nat → List Tr → Option Blk → Option Blk
  | _, [], b => b
  | i, a :: r, b => siteAt X x (i + 1) r (if X i = true ∧ x ∈ a.W then a.H'.get x else b)
def envAt (X : Nat → Bool) (t : Nat) : Nat → List Tr → AV → AV
  | _, [], v => v
  | i, a :: r, v => envAt X t (i + 1) r (if X i = true ∧ a.mo.dst = some t then a.v else v)

theorem siteAt_congr {X Y : Nat → Bool} {x : Site} : ∀ (l : List Tr) (i : Nat) (b : Option Blk), (∀ j a, l[j]? = some a → x ∈ a.W → X (i + j) = Y (i + j)) → siteAt X x i l b = siteAt Y x i l b
  | [], _, _, _ => rfl
  | a :: r, i, b, h => by
    simp only [siteAt]
    have h0 := h 0 a rfl
    have : (if X i = true ∧ x ∈ a.W then a.H'.get x else b) = (if Y i = true ∧ x ∈ a.W then a.H'.get x else b) := by
      by_cases hx : x ∈ a.W
      · have := h0 hx; simp only [Nat.add_zero] at this; rw [this]
      · simp [hx]
    rw [this]
    exact siteAt_congr r (i + 1) _ fun j c hc hx => by have := h (j + 1) c (by simpa using hc) hx; rw [show i + 1 + j = i + (j + 1) by omega]; exact this
theorem envAt_congr {X Y : Nat → Bool} {t : Nat} : ∀ (l : List Tr) (i : Nat) (b : AV), (∀ j a, l[j]? = some a → a.mo.dst = some t → X (i + j) = Y (i + j)) → envAt X t i l b = envAt Y t i l b
  | [], _, _, _ => rfl
  | a :: r, i, b, h => by
    simp only [envAt]
    have h0 := h 0 a rfl
    have : (if X i = true ∧ a.mo.dst = some t then a.v else b) = (if Y i = true ∧ a.mo.dst = some t then a.v else b) := by
      by_cases hx : a.mo.dst = some t
      · have := h0 hx; simp only [Nat.add_zero] at this; rw [this]
      · simp [hx]
    rw [this]
    exact envAt_congr r (i + 1) _ fun j c hc hx => by have := h (j + 1) c (by simpa using hc) hx; rw [show i + 1 + j = i + (j + 1) by omega]; exact this
theorem siteAt_none {X : Nat → Bool} {x : Site} : ∀ (l : List Tr) (i : Nat) (b : Option Blk), (∀ j, i ≤ j → X j = false) → siteAt X x i l b = b
  | [], _, _, _ => rfl
  | a :: r, i, b, h => by
    simp only [siteAt, h i (Nat.le_refl _), Bool.false_eq_true, false_and, if_false]
    exact siteAt_none r (i + 1) b fun j hj => h j (by omega)
theorem envAt_none {X : Nat → Bool} {t : Nat} : ∀ (l : List Tr) (i : Nat) (b : AV), (∀ j, i ≤ j → X j = false) → envAt X t i l b = b
  | [], _, _, _ => rfl
  | a :: r, i, b, h => by
    simp only [envAt, h i (Nat.le_refl _), Bool.false_eq_true, false_and, if_false]
    exact envAt_none r (i + 1) b fun j hj => h j (by omega)

section
variable {P : Program} {PP : Prog} {C : Caller} {d : Nat} {π : List Nat}

/-- an entry of a trace says what happened -/
structure TrOk (PP : Prog) (C : Caller) (d : Nat) (st : List Nat) (a : Tr) : Prop where
  guard : guardOf a.e a.mo.guard = some a.on
  off : a.on = false → a.v = .v undef ∧ a.W = [] ∧ a.H' = a.H
  foot : a.on = true → footR PP a.mo a.e a.H = some a.R
  step : a.on = true → stepOp PP C d st a.mo a.e a.H = some (a.v, a.H')
  writes : a.on = true → a.W = footW PP ⟨d, a.mo.dst.getD 0, 0⟩ a.mo a.e a.H a.v

theorem TrOk.lays {st : List Nat} {a : Tr} (h : TrOk PP C d st a) (x : Site) : (if x ∈ a.W then a.H'.get x else a.H.get x) = a.H'.get x := by
  cases ho : a.on with
  | false => obtain ⟨_, h2, h3⟩ := h.off ho; rw [h2, h3]; simp
  | true =>
    obtain ⟨G, h1, h2⟩ := stepOp_lays (H2 := a.H) (e2 := a.e) (h.step ho) (h.foot ho) (fun _ _ => rfl) (fun _ _ => rfl)
    rw [h.step ho] at h1
    cases h1
    have := h2 x
    rw [← h.writes ho] at this
    exact this.symm

theorem get_putD (e : Env) (dst : Option Nat) (v : AV) (t : Nat) : (putD e dst v).get t = if dst = some t then v else e.get t := by
  cases dst with
  | none => simp [putD]
  | some k => simp [putD, Env.get]

def hBefore (tr : List Tr) (s' : St) (m : Nat) : Heap := match tr[m]? with | some a => a.H | none => s'.H
def eBefore (tr : List Tr) (s' : St) (m : Nat) : Env := match tr[m]? with | some a => a.e | none => s'.env

theorem evTrace_facts : ∀ (l : List MO) (s s' : St) (tr : List Tr), evTrace PP C d π l s = some (tr, s') → tr.length = l.length ∧ s'.k = s.k + l.length ∧ (∀ j a, tr[j]? = some a → l[j]? = some a.mo ∧ TrOk PP C d ((s.k + j) :: π) a) ∧
    (∀ i m x, siteAt (fun j => decide (j < i + m)) x i tr (s.H.get x) = (hBefore tr s' m).get x) ∧ (∀ i m t, envAt (fun j => decide (j < i + m)) t i tr (s.env.get t) = (eBefore tr s' m).get t)
  | [], s, s', tr, h => by
    simp only [evTrace] at h; cases h
    exact ⟨rfl, rfl, fun j a h => by simp at h, fun i m x => rfl, fun i m t => rfl⟩
  | o :: r, s, s', tr, h => by
    have key : ∀ (a : Tr) (s1 : St) (tr1 : List Tr), a.mo = o → a.e = s.env → a.H = s.H → TrOk PP C d (s.k :: π) a → s1 = ⟨putD s.env o.dst a.v, a.H', s.k + 1⟩ → evTrace PP C d π r s1 = some (tr1, s') → tr = a :: tr1 →
        tr.length = (o :: r).length ∧ s'.k = s.k + (o :: r).length ∧ (∀ j a, tr[j]? = some a → (o :: r)[j]? = some a.mo ∧ TrOk PP C d ((s.k + j) :: π) a) ∧
        (∀ i m x, siteAt (fun j => decide (j < i + m)) x i tr (s.H.get x) = (hBefore tr s' m).get x) ∧ (∀ i m t, envAt (fun j => decide (j < i + m)) t i tr (s.env.get t) = (eBefore tr s' m).get t) := by
      intro a s1 tr1 hmo he hH hok hs1 htr htr2
      subst htr2
      obtain ⟨h1, h2, h3, h4, h5⟩ := evTrace_facts r s1 s' tr1 htr
      refine ⟨by simp [h1], by rw [h2, hs1]; simp; omega, fun j b hb => ?_, fun i m x => ?_, fun i m t => ?_⟩
      · cases j with
        | zero => simp at hb; subst hb; exact ⟨by simp [hmo], hok⟩
        | succ j =>
          obtain ⟨q1, q2⟩ := h3 j b (by simpa using hb)
          refine ⟨by simpa using q1, ?_⟩
          rw [hs1] at q2
          simpa [Nat.add_assoc, Nat.add_comm 1 j] using q2
      · cases m with
        | zero =>
          rw [siteAt_none _ _ _ fun j hj => by simp; omega]
          simp [hBefore, hH]
        | succ m =>
          simp only [siteAt]
          have e1 : (if decide (i < i + (m + 1)) = true ∧ x ∈ a.W then a.H'.get x else s.H.get x) = s1.H.get x := by
            rw [← hH, hs1]
            simp only [show decide (i < i + (m + 1)) = true by simp, true_and]
            exact hok.lays x
          rw [e1]
          have := h4 (i + 1) m x
          rw [show (fun j => decide (j < i + (m + 1))) = fun j => decide (j < i + 1 + m) by funext j; congr 1; apply propext; omega]
          rw [this]
          simp [hBefore]
      · cases m with
        | zero =>
          rw [envAt_none _ _ _ fun j hj => by simp; omega]
          simp [eBefore, he]
        | succ m =>
          simp only [envAt]
          have e1 : (if decide (i < i + (m + 1)) = true ∧ a.mo.dst = some t then a.v else s.env.get t) = s1.env.get t := by
            rw [hs1]
            simp only [show decide (i < i + (m + 1)) = true by simp, true_and, get_putD, hmo]
          rw [e1]
          have := h5 (i + 1) m t
          rw [show (fun j => decide (j < i + (m + 1))) = fun j => decide (j < i + 1 + m) by funext j; congr 1; apply propext; omega]
          rw [this]
          simp [eBefore]
    simp only [evTrace] at h
    cases hg : guardOf s.env o.guard with
    | none => rw [hg] at h; cases h
    | some b =>
      rw [hg] at h
      cases b with
      | false =>
        simp only at h
        split at h
        · cases h
        · rename_i l1 s1 h1
          cases h
          exact key _ _ _ rfl rfl rfl ⟨hg, fun _ => ⟨rfl, rfl, rfl⟩, fun h => (by cases h), fun h => (by cases h), fun h => (by cases h)⟩ rfl h1 rfl
      | true =>
        simp only at h
        split at h
        · cases h
        · rename_i R hR
          split at h
          · cases h
          · rename_i v H1 hs
            split at h
            · cases h
            · rename_i l1 s1 h1
              cases h
              exact key _ _ _ rfl rfl rfl ⟨hg, fun h => (by cases h), fun _ => hR, fun _ => hs, fun _ => rfl⟩ rfl h1 rfl

theorem indepAt_at {a : Tr} {i : Nat} : ∀ {l : List Tr}, indepAt a i l = true → ∀ b ∈ l, i ∈ b.mo.pre ∨ a.clear b = true
  | [], _, b, hb => by simp at hb
  | c :: r, h, b, hb => by
    simp only [indepAt, Bool.and_eq_true, Bool.or_eq_true, decide_eq_true_eq] at h
    rcases List.mem_cons.1 hb with rfl | hb
    · exact h.1
    · exact indepAt_at h.2 b hb
theorem indep_at : ∀ {l : List Tr} {k : Nat}, indep k l = true → ∀ i j a b, i < j → l[i]? = some a → l[j]? = some b → k + i ∈ b.mo.pre ∨ a.clear b = true
  | [], k, h, i, j, a, b, hij, ha, hb => by simp at ha
  | c :: r, k, h, i, j, a, b, hij, ha, hb => by
    simp only [indep, Bool.and_eq_true] at h
    cases j with
    | zero => omega
    | succ j =>
      have hb' : r[j]? = some b := by simpa using hb
      cases i with
      | zero =>
        simp at ha; subst ha
        exact indepAt_at h.1 b (List.mem_of_getElem? hb')
      | succ i =>
        have := indep_at h.2 i j a b (by omega) (by simpa using ha) hb'
        rw [show k + (i + 1) = k + 1 + i by omega]
        exact this

theorem apartS_spec {a b : List Site} (h : apartS a b = true) {s : Site} (h1 : s ∈ a) (h2 : s ∈ b) : False := by
  have := List.all_eq_true.1 h s h1
  simp [h2] at this

structure Clear (a b : Tr) : Prop where
  wr : ∀ x, x ∈ a.W → x ∉ b.R
  ww : ∀ x, x ∈ a.W → x ∉ b.W
  rw : ∀ x, x ∈ b.W → x ∉ a.R
  du : ∀ t, a.mo.dst = some t → t ∉ b.mo.uses
  dd : ∀ t, a.mo.dst = some t → b.mo.dst ≠ some t
  ud : ∀ t, b.mo.dst = some t → t ∉ a.mo.uses
theorem Tr.clear_spec {a b : Tr} (h : a.clear b = true) : Clear a b := by
  simp only [Tr.clear, Bool.and_eq_true] at h
  obtain ⟨⟨⟨⟨h1, h2⟩, h3⟩, h4⟩, h5⟩ := h
  refine ⟨fun x hx hy => apartS_spec h1 hx hy, fun x hx hy => apartS_spec h2 hx hy, fun x hx hy => apartS_spec h3 hx hy, fun t ht => ?_, fun t ht => ?_, fun t ht => ?_⟩
  · rw [ht] at h4; simp at h4; exact h4.1
  · rw [ht] at h4; simp at h4; exact h4.2
  · rw [ht] at h5; simp at h5; exact h5

/-! ### what must come first -/
theorem presOf_get : ∀ (l : List Oper) (acc : List (List Nat)), (∀ i, i < acc.length → (presOf l acc)[i]? = acc[i]?) ∧ (presOf l acc).length = acc.length + l.length ∧
    ∀ j o, l[j]? = some o → ∃ ps, (presOf l acc)[acc.length + j]? = some ps ∧ ∀ i ∈ ps, ∃ e ∈ o.after, Region.binds .any e = true ∧ (i = e.on ∨ ∃ qs, (presOf l acc)[e.on]? = some qs ∧ i ∈ qs)
  | [], acc => ⟨fun i _ => rfl, rfl, fun j o h => by simp at h⟩
  | o :: r, acc => by
    obtain ⟨h1, h2, h3⟩ := presOf_get r (acc ++ [(preOf acc o).eraseDups])
    simp only [presOf]
    refine ⟨fun i hi => ?_, by rw [h2]; simp; omega, fun j o' hj => ?_⟩
    · rw [h1 i (by simp; omega), List.getElem?_append_left hi]
    · cases j with
      | zero =>
        simp at hj; subst hj
        refine ⟨_, by rw [h1 _ (by simp)]; simp; rfl, fun i hi => ?_⟩
        rw [List.mem_eraseDups] at hi
        have aux : ∀ (es : List Edge) (s0 : List Nat), i ∈ es.foldl (fun s e => e.on :: ((acc[e.on]?).getD []) ++ s) s0 → i ∈ s0 ∨ ∃ e ∈ es, i = e.on ∨ i ∈ (acc[e.on]?).getD [] := by
          intro es
          induction es with
          | nil => intro s0 h; exact .inl h
          | cons e es ih =>
            intro s0 h
            rcases ih _ h with h | ⟨e', h4, h5⟩
            · simp only [List.cons_append, List.mem_cons, List.mem_append] at h
              rcases h with h | h | h
              · exact .inr ⟨e, by simp, .inl h⟩
              · exact .inr ⟨e, by simp, .inr h⟩
              · exact .inl h
            · exact .inr ⟨e', by simp [h4], h5⟩
        rcases aux _ _ hi with h | ⟨e, h4, h5⟩
        · simp at h
        · rw [List.mem_filter] at h4
          refine ⟨e, by simpa using h4.1, h4.2, h5.imp id fun h6 => ?_⟩
          cases hq : acc[e.on]? with
          | none => rw [hq] at h6; simp at h6
          | some qs =>
            rw [hq] at h6
            have hlt := (List.getElem?_eq_some_iff.1 hq).1
            exact ⟨qs, by rw [h1 _ (by simp; omega), List.getElem?_append_left hlt, hq], h6⟩
      | succ j =>
        obtain ⟨ps, h4, h5⟩ := h3 j o' (by simpa using hj)
        exact ⟨ps, by rw [← h4]; simp; congr 1; omega, h5⟩

theorem compOps_get {ops : Array Oper} : ∀ (l : List Oper) (ps : List (List Nat)) (j : Nat), (compOps P ops l ps)[j]? = (l[j]?).map fun o => compOper P ops o ((ps[j]?).getD [])
  | [], ps, j => by simp [compOps]
  | o :: r, ps, j => by
    simp only [compOps]
    cases j with
    | zero => cases ps <;> simp
    | succ j => rw [List.getElem?_cons_succ, compOps_get r ps.tail j]; cases ps <;> simp
theorem compOper_pre {ops : Array Oper} {o : Oper} {pre : List Nat} : (compOper P ops o pre).pre = pre := by
  unfold compOper; split <;> rfl

theorem edgesOk_at : ∀ (l : List Oper) (k : Nat), edgesOk k l = true → ∀ j o, l[j]? = some o → ∀ e ∈ o.after, Region.binds .any e = true → e.on < k + j
  | [], k, h, j, o, hj => by simp at hj
  | c :: r, k, h, j, o, hj => by
    simp only [edgesOk, Bool.and_eq_true] at h
    cases j with
    | zero =>
      simp at hj; subst hj
      intro e he hb
      have := Array.all_eq_true_iff_forall_mem.1 h.1 e he
      simp [hb] at this
      omega
    | succ j =>
      intro e he hb
      have := edgesOk_at r (k + 1) h.2 j o (by simpa using hj) e he hb
      omega
end
end Go.Proofs.Ytnccnmeecngopaa.Fw
