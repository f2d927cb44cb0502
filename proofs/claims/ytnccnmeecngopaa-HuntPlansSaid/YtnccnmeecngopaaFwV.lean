/- The abstract evaluator, part V: whatever order the operations take, the same comes of it. -/
import Derived.Test.YtnccnmeecngopaaFwU
set_option linter.unusedVariables false
set_option linter.unusedSimpArgs false
set_option linter.unnecessarySimpa false
namespace Go.Proofs.Ytnccnmeecngopaa.Fw
open Go Go.RowKit

theorem HRel.ext {B : Nat} {ρ : Map} {old : List Nat → Prop} {w : World} {H G : Heap} (h : HRel B ρ old w H) (e : ∀ x, G.get x = H.get x) : HRel B ρ old w G :=
  ⟨fun s blk hb => h.there s blk (by rw [← e]; exact hb), h.inb, h.inj⟩

theorem siteAt_off {X : Nat → Bool} {x : Site} : ∀ (l : List Tr) (i : Nat) (b : Option Blk), (∀ j a, l[j]? = some a → x ∈ a.W → X (i + j) = false) → siteAt X x i l b = b
  | [], _, _, _ => rfl
  | a :: r, i, b, h => by
    simp only [siteAt]
    rw [if_neg (fun hh => by have := h 0 a rfl hh.2; simp only [Nat.add_zero] at this; rw [this] at hh; simp at hh)]
    exact siteAt_off r (i + 1) b fun j c hc hx => by have := h (j + 1) c (by simpa using hc) hx; rw [show i + 1 + j = i + (j + 1) by omega]; exact this
theorem envAt_off {X : Nat → Bool} {t : Nat} : ∀ (l : List Tr) (i : Nat) (b : AV), (∀ j a, l[j]? = some a → a.mo.dst = some t → X (i + j) = false) → envAt X t i l b = b
  | [], _, _, _ => rfl
  | a :: r, i, b, h => by
    simp only [envAt]
    rw [if_neg (fun hh => by have := h 0 a rfl hh.2; simp only [Nat.add_zero] at this; rw [this] at hh; simp at hh)]
    exact envAt_off r (i + 1) b fun j c hc hx => by have := h (j + 1) c (by simpa using hc) hx; rw [show i + 1 + j = i + (j + 1) by omega]; exact this
theorem siteAt_last {X : Nat → Bool} {x : Site} {a : Tr} (hx : x ∈ a.W) : ∀ (l : List Tr) (i k : Nat) (b : Option Blk), l[k]? = some a → X (i + k) = true → (∀ j c, k < j → l[j]? = some c → x ∈ c.W → X (i + j) = false) → siteAt X x i l b = a.H'.get x
  | [], _, k, _, h, _, _ => by simp at h
  | c :: r, i, k, b, h, hX, hlater => by
    simp only [siteAt]
    cases k with
    | zero =>
      simp at h; subst h
      simp only [Nat.add_zero] at hX
      rw [if_pos ⟨hX, hx⟩]
      exact siteAt_off r (i + 1) _ fun j c hc hq => by have := hlater (j + 1) c (by omega) (by simpa using hc) hq; rw [show i + 1 + j = i + (j + 1) by omega]; exact this
    | succ k =>
      exact siteAt_last hx r (i + 1) k _ (by simpa using h) (by rw [show i + 1 + k = i + (k + 1) by omega]; exact hX) fun j c hj hc hq => by
        have := hlater (j + 1) c (by omega) (by simpa using hc) hq; rw [show i + 1 + j = i + (j + 1) by omega]; exact this
theorem envAt_last {X : Nat → Bool} {t : Nat} {a : Tr} (hx : a.mo.dst = some t) : ∀ (l : List Tr) (i k : Nat) (b : AV), l[k]? = some a → X (i + k) = true → (∀ j c, k < j → l[j]? = some c → c.mo.dst = some t → X (i + j) = false) → envAt X t i l b = a.v
  | [], _, k, _, h, _, _ => by simp at h
  | c :: r, i, k, b, h, hX, hlater => by
    simp only [envAt]
    cases k with
    | zero =>
      simp at h; subst h
      simp only [Nat.add_zero] at hX
      rw [if_pos ⟨hX, hx⟩]
      exact envAt_off r (i + 1) _ fun j c hc hq => by have := hlater (j + 1) c (by omega) (by simpa using hc) hq; rw [show i + 1 + j = i + (j + 1) by omega]; exact this
    | succ k =>
      exact envAt_last hx r (i + 1) k _ (by simpa using h) (by rw [show i + 1 + k = i + (k + 1) by omega]; exact hX) fun j c hj hc hq => by
        have := hlater (j + 1) c (by omega) (by simpa using hc) hq; rw [show i + 1 + j = i + (j + 1) by omega]; exact this

def left (X : Nat → Bool) : Nat → Nat
  | 0 => 0
  | m + 1 => left X m + if X m then 0 else 1
theorem left_zero {X : Nat → Bool} : ∀ {m : Nat}, left X m = 0 → ∀ i, i < m → X i = true
  | 0, _, i, hi => by omega
  | m + 1, h, i, hi => by
    simp only [left] at h
    by_cases he : i = m
    · subst he
      cases hx : X i with
      | true => rfl
      | false => simp [hx] at h
    · exact left_zero (X := X) (m := m) (by omega) i (by omega)
theorem left_mono {X Y : Nat → Bool} (h : ∀ i, X i = true → Y i = true) : ∀ m, left Y m ≤ left X m
  | 0 => Nat.le_refl _
  | m + 1 => by
    simp only [left]
    have := left_mono h m
    cases hx : X m with
    | true => rw [h m hx]; simp; exact this
    | false => simp; split <;> omega
theorem left_lt {X Y : Nat → Bool} (h : ∀ i, X i = true → Y i = true) : ∀ {m i : Nat}, i < m → X i = false → Y i = true → left Y m < left X m
  | 0, i, hi, _, _ => by omega
  | m + 1, i, hi, hx, hy => by
    simp only [left]
    by_cases he : i = m
    · subst he
      have := left_mono h i
      simp [hx, hy]; omega
    · have := left_lt h (m := m) (i := i) (by omega) hx hy
      cases hq : X m with
      | true => rw [h m hq]; simp; exact this
      | false => simp; split <;> omega

def done (listed : Array Bool) (i : Nat) : Bool := listed.getD i false
theorem done_set {listed : Array Bool} {i : Nat} (hi : i < listed.size) (j : Nat) : done (listed.setIfInBounds i true) j = (done listed j || decide (j = i)) := by
  unfold done
  by_cases h : i = j
  · subst h; simp [hi]
  · rw [getD_set_ne false h]; simp [Ne.symm h]

section
variable {P : Program} {PP : Prog} {C : Caller} {n B d : Nat} {π : List Nat} {ops : Array Oper} {s s' : St} {tr : List Tr} {Q : Exit → Act → World → Prop}

def Mid (d n B : Nat) (π : List Nat) (s : St) (tr : List Tr) (ρA : Map) (oldA : List Nat → Prop) (wA : World) (X : Nat → Bool) (a : Act) (w : World) : Prop :=
  ∃ ρ old e H, Good d n B ρ old w e H a ∧ After d B s.H ρA oldA wA (fun q => ∃ i τ, X i = true ∧ i < tr.length ∧ q = τ ++ (s.k + i) :: π) H ρ old w ∧
    (∀ t, e.get t = envAt X t 0 tr (s.env.get t)) ∧ (∀ x, H.get x = siteAt X x 0 tr (s.H.get x))

/-- of the operations that conflict with the one at hand, those ahead in the text have been carried out, and no other -/
theorem agree {X : Nat → Bool} {i : Nat} {a : Tr} (hi : tr[i]? = some a) (hXi : X i = false) (hready : ∀ k ∈ a.mo.pre, X k = true) (hD : ∀ j b, X j = true → tr[j]? = some b → ∀ k ∈ b.mo.pre, X k = true)
    (hind : ∀ (i j : Nat) (a b : Tr), i < j → tr[i]? = some a → tr[j]? = some b → i ∈ b.mo.pre ∨ a.clear b = true) {cf : Tr → Prop} (h1 : ∀ c, cf c → ¬ Clear c a) (h2 : ∀ c, cf c → ¬ Clear a c) :
    ∀ j c, tr[j]? = some c → cf c → j ≠ i → X j = decide (j < i) := by
  intro j c hj hc hne
  by_cases hlt : j < i
  · rcases hind j i c a hlt hj hi with h | h
    · rw [hready j h]; simp [hlt]
    · exact absurd (Tr.clear_spec h) (h1 c hc)
  · have hgt : i < j := by omega
    rcases hind i j a c hgt hi hj with h | h
    · have : X j = false := by
        cases hx : X j with
        | false => rfl
        | true => rw [hD j c hx hj i h] at hXi; cases hXi
      rw [this]; simp [hlt]
    · exact absurd (Tr.clear_spec h) (h2 c hc)

theorem draw_any (hC : CallerOk P C) (hS : SpecOk P PP) (hedge : edgesOk 0 ops.toList = true) (hd : dstsOk n (compOps P ops ops.toList (presOf ops.toList [])) = true)
    (htr : evTrace PP C d π (compOps P ops ops.toList (presOf ops.toList [])) s = some (tr, s')) (hin : indep 0 tr = true) {ρA : Map} {oldA : List Nat → Prop} {wA : World}
    (hst : ∀ q, oldA q → ∀ τ m, s.k ≤ m → q ≠ τ ++ m :: π) (hQ : Leaves d n B s.H Q ρA oldA wA (fun q => ∃ τ m, q = τ ++ m :: π ∧ s.k ≤ m ∧ m < s'.k) .nrm s') :
    ∀ (fuel : Nat) (listed : Array Bool) (a : Act) (w : World), listed.size = ops.size → left (done listed) ops.size ≤ fuel → (∀ j b, done listed j = true → tr[j]? = some b → ∀ k ∈ b.mo.pre, done listed k = true) →
      Mid d n B π s tr ρA oldA wA (done listed) a w → wpAny P .any ops Q fuel listed a w := by
  obtain ⟨hlen, hk, hat, hB, hE⟩ := evTrace_facts _ _ _ _ htr
  have hlen' : tr.length = ops.size := by
    rw [hlen]
    have : ∀ (l : List Oper) (ps : List (List Nat)), (compOps P ops l ps).length = l.length := by
      intro l
      induction l with
      | nil => intro ps; rfl
      | cons o r ih => intro ps; simp [compOps, ih]
    rw [this]; simp
  have hk' : s'.k = s.k + ops.size := by rw [hk, ← hlen, hlen']
  have hind : ∀ (i j : Nat) (a b : Tr), i < j → tr[i]? = some a → tr[j]? = some b → i ∈ b.mo.pre ∨ a.clear b = true := fun i j a b hij ha hb => by
    have := indep_at hin i j a b hij ha hb
    simpa using this
  have entry : ∀ i o, ops[i]? = some o → ∃ a, tr[i]? = some a ∧ a.mo = compOper P ops o (((presOf ops.toList [])[i]?).getD []) ∧ TrOk PP C d ((s.k + i) :: π) a := by
    intro i o ho
    have hi : i < tr.length := by rw [hlen']; exact (Array.getElem?_eq_some_iff.1 ho).1
    obtain ⟨q1, q2⟩ := hat i tr[i] (by simp [hi])
    refine ⟨tr[i], by simp [hi], ?_, q2⟩
    rw [compOps_get] at q1
    have ho' : ops.toList[i]? = some o := by simpa using ho
    rw [ho'] at q1
    simp only [Option.map_some, Option.some.injEq] at q1
    exact q1.symm
  have finish : ∀ (listed : Array Bool) (a : Act) (w : World), (∀ i, i < ops.size → done listed i = true) → Mid d n B π s tr ρA oldA wA (done listed) a w → Q .normal a w := by
    rintro listed a w hall ⟨ρ, old, e, H, g, ha, he, hH⟩
    have hx : ∀ x, s'.H.get x = H.get x := fun x => by
      have h1 := hB 0 tr.length x
      have h2 : hBefore tr s' tr.length = s'.H := by simp [hBefore]
      rw [h2] at h1
      rw [← h1, siteAt_congr (Y := done listed) tr 0 _ fun j c hj _ => ?_, ← hH x]
      · have hlt := (List.getElem?_eq_some_iff.1 hj).1
        rw [show 0 + j = j by omega, hall j (by omega)]; simp; exact hlt
    refine hQ ρ old a w ⟨ha.keep, ha.below, fun q hq => (ha.news q hq).imp id fun ⟨i, τ, _, hi, hq⟩ => ⟨τ, s.k + i, hq, by omega, by rw [hk']; omega⟩, ha.av, fun x hx1 hn => ⟨(hx x).trans (ha.fr x hx1 hn).1, (ha.fr x hx1 hn).2⟩⟩ ⟨fun t => ?_, g.heap.ext hx, g.base, g.size, g.defers, g.low.ext hx⟩
    · have h1 := hE 0 tr.length t
      have h2 : eBefore tr s' tr.length = s'.env := by simp [eBefore]
      rw [h2] at h1
      rw [← h1, envAt_congr (Y := done listed) tr 0 _ fun j c hj _ => ?_, ← he t]
      · exact g.env t
      · have hlt := (List.getElem?_eq_some_iff.1 hj).1
        rw [show 0 + j = j by omega, hall j (by omega)]; simp; exact hlt
  intro fuel
  induction fuel with
  | zero =>
    intro listed a w hsz hl hD hmid
    have hall := left_zero (Nat.le_zero.1 hl)
    refine ⟨?_, finish listed a w hall hmid⟩
    rw [List.eq_nil_iff_forall_not_mem]
    intro i hi
    obtain ⟨h1, o, ho, _⟩ := mem_ready.1 hi
    have hlt := (Array.getElem?_eq_some_iff.1 ho).1
    have := hall i hlt
    unfold done at this
    simp [hsz, hlt] at h1 this
    rw [h1] at this; cases this
  | succ fuel ih =>
    intro listed a w hsz hl hD hmid
    refine ⟨fun hr => finish listed a w (fun i => ?_) hmid, fun i hi => ?_⟩
    · induction i using Nat.strongRecOn with
      | _ i ihi =>
        intro hlt
        cases hx : done listed i with
        | true => rfl
        | false =>
          exfalso
          have ho : ops[i]? = some ops[i] := by simp [hlt]
          have : i ∈ Region.ready .any ops listed := by
            refine mem_ready.2 ⟨?_, ops[i], ho, fun e he hb => ?_⟩
            · unfold done at hx; simp [hsz, hlt] at hx ⊢; exact hx
            · have h1 := edgesOk_at _ _ hedge i ops[i] (by simp [hlt]) e he hb
              exact ihi e.on (by omega) (by omega)
          rw [hr] at this; cases this
    · obtain ⟨hun, o, ho, hall⟩ := mem_ready.1 hi
      have hlt := (Array.getElem?_eq_some_iff.1 ho).1
      have hltL : i < listed.size := by omega
      have hXi : done listed i = false := by unfold done; simp [hsz, hlt] at hun ⊢; exact hun
      obtain ⟨A, hA, hmo, hok⟩ := entry i o ho
      have hready : ∀ k ∈ A.mo.pre, done listed k = true := by
        intro k hk
        rw [hmo, compOper_pre] at hk
        obtain ⟨_, _, h3⟩ := presOf_get ops.toList []
        obtain ⟨ps, h4, h5⟩ := h3 i o (by simpa using ho)
        simp only [List.length_nil, Nat.zero_add] at h4
        rw [h4] at hk
        obtain ⟨e, he, hb, hor⟩ := h5 k (by simpa using hk)
        have hon : done listed e.on = true := hall e (by simpa using he) hb
        rcases hor with rfl | ⟨qs, h6, h7⟩
        · exact hon
        · have hlo : e.on < ops.size := by
            unfold done at hon
            rcases Nat.lt_or_ge e.on listed.size with h | h
            · omega
            · simp [Array.getElem?_eq_none h] at hon
          obtain ⟨D, hD1, hD2, _⟩ := entry e.on ops[e.on] (by simp [hlo])
          refine hD e.on D hon hD1 k ?_
          rw [hD2, compOper_pre, h6]
          exact h7
      have X' := done_set hltL
      have hD' : ∀ j b, done (listed.setIfInBounds i true) j = true → tr[j]? = some b → ∀ k ∈ b.mo.pre, done (listed.setIfInBounds i true) k = true := by
        intro j b hj hb k hk
        rw [X', Bool.or_eq_true] at hj ⊢
        rcases hj with hj | hj
        · exact .inl (hD j b hj hb k hk)
        · simp at hj; subst hj
          rw [hA] at hb; cases hb
          exact .inl (hready k hk)
      have hl' : left (done (listed.setIfInBounds i true)) ops.size ≤ fuel := by
        have := left_lt (X := done listed) (Y := done (listed.setIfInBounds i true)) (fun j hj => by rw [X', hj]; rfl) hlt hXi (by rw [X']; simp)
        omega
      have ag := @agree tr (done listed) i A hA hXi hready hD hind
      obtain ⟨ρ, old, e, H, g, ha, he, hH⟩ := hmid
      have huse : ∀ t ∈ A.mo.uses, e.get t = A.e.get t := by
        intro t ht
        rw [he t, envAt_congr (Y := fun j => decide (j < 0 + i)) tr 0 _ fun j c hj hc => ?_, hE 0 i t]
        · simp [eBefore, hA]
        · have := ag (cf := fun c => c.mo.dst = some t) (fun c hc k => k.du t hc ht) (fun c hc k => k.ud t hc ht) j c hj hc
          by_cases hji : j = i
          · subst hji; simp [hXi]
          · rw [show 0 + j = j by omega, this hji]; simp
      have hreads : ∀ x ∈ A.R, H.get x = A.H.get x := by
        intro x hx
        rw [hH x, siteAt_congr (Y := fun j => decide (j < 0 + i)) tr 0 _ fun j c hj hc => ?_, hB 0 i x]
        · simp [hBefore, hA]
        · have := ag (cf := fun c => x ∈ c.W) (fun c hc k => k.wr x hc hx) (fun c hc k => k.rw x hc hx) j c hj hc
          by_cases hji : j = i
          · subst hji; simp [hXi]
          · rw [show 0 + j = j by omega, this hji]; simp
      have henv : ∀ t, (putD e o.dst A.v).get t = envAt (done (listed.setIfInBounds i true)) t 0 tr (s.env.get t) := by
        have hdst : A.mo.dst = o.dst := by rw [hmo, compOper_dst]
        intro t
        rw [get_putD]
        by_cases ht : o.dst = some t
        · rw [if_pos ht]
          refine (envAt_last (hdst.trans ht) tr 0 i _ hA (by rw [X']; simp) fun j c hj hc hq => ?_).symm
          have := ag (cf := fun c => c.mo.dst = some t) (fun c hc k => k.dd t hc (hdst.trans ht)) (fun c hc k => k.dd t (hdst.trans ht) hc) j c hc hq (by omega)
          rw [show 0 + j = j by omega, X', this]; simp; omega
        · rw [if_neg ht, he t]
          refine envAt_congr tr 0 _ fun j c hj hc => ?_
          rw [show 0 + j = j by omega, X']
          have : j ≠ i := by rintro rfl; rw [hA] at hj; cases hj; exact ht (hdst ▸ hc)
          simp [this]
      have hheap : ∀ H2, Lays A.W H A.H' H2 → ∀ x, H2.get x = siteAt (done (listed.setIfInBounds i true)) x 0 tr (s.H.get x) := by
        intro H2 hL x
        rw [hL x]
        by_cases hx : x ∈ A.W
        · rw [if_pos hx]
          refine (siteAt_last hx tr 0 i _ hA (by rw [X']; simp) fun j c hj hc hq => ?_).symm
          have := ag (cf := fun c => x ∈ c.W) (fun c hc k => k.ww x hc hx) (fun c hc k => k.ww x hx hc) j c hc hq (by omega)
          rw [show 0 + j = j by omega, X', this]; simp; omega
        · rw [if_neg hx, hH x]
          refine siteAt_congr tr 0 _ fun j c hj hc => ?_
          rw [show 0 + j = j by omega, X']
          have : j ≠ i := by rintro rfl; rw [hA] at hj; cases hj; exact hx hc
          simp [this]
      have hmono : ∀ q, (∃ i τ, done listed i = true ∧ i < tr.length ∧ q = τ ++ (s.k + i) :: π) → ∃ j τ, done (listed.setIfInBounds i true) j = true ∧ j < tr.length ∧ q = τ ++ (s.k + j) :: π :=
        fun q ⟨j, τ, h1, h2, h3⟩ => ⟨j, τ, by rw [X', h1]; rfl, h2, h3⟩
      have hd1 : ∀ t, o.dst = some t → t < n := by
        have dst_at : ∀ (l : List MO), dstsOk n l = true → ∀ m ∈ l, ∀ t, m.dst = some t → t < n := by
          intro l
          induction l with
          | nil => intro _ m hm; simp at hm
          | cons c r ih =>
            intro h m hm t ht
            simp only [dstsOk, Bool.and_eq_true] at h
            rcases List.mem_cons.1 hm with rfl | hm
            · have := h.1; rw [ht] at this; simpa using this
            · exact ih h.2 m hm t ht
        intro t ht
        refine dst_at _ hd A.mo (List.mem_of_getElem? (hat i A hA).1) t ?_
        rw [hmo, compOper_dst]; exact ht
      unfold wpOp
      simp only [ho]
      -- the guard
      cases e1 : compOp P o.op with
      | none =>
        exfalso
        have hb : A.mo = ⟨o.dst, .bad, none, (((presOf ops.toList [])[i]?).getD [])⟩ := by rw [hmo]; simp [compOper, e1]
        have h1 := hok.guard
        have h2 := hok.step
        rw [hb] at h1 h2
        simp only [guardOf, Option.some.injEq] at h1
        have := h2 h1.symm
        simp only [stepOp, opSem] at this
        cases this
      | some m =>
      cases e2 : compGuard ops o.guard with
      | none =>
        exfalso
        have hb : A.mo = ⟨o.dst, .bad, none, (((presOf ops.toList [])[i]?).getD [])⟩ := by rw [hmo]; simp [compOper, e1, e2]
        have h1 := hok.guard
        have h2 := hok.step
        rw [hb] at h1 h2
        simp only [guardOf, Option.some.injEq] at h1
        have := h2 h1.symm
        simp only [stepOp, opSem] at this
        cases this
      | some gd =>
        have hb : A.mo = ⟨o.dst, m, gd, (((presOf ops.toList [])[i]?).getD [])⟩ := by rw [hmo]; simp [compOper, e1, e2]
        have hguard : guardOf e gd = some A.on := by
          have h1 := hok.guard
          rw [hb] at h1
          simp only at h1
          rw [← h1]
          cases gd with
          | none => rfl
          | some tw =>
            obtain ⟨t, want⟩ := tw
            simp only [guardOf]
            rw [huse t (by rw [hb]; simp [MO.uses])]
        have hw := wanted_of g.env e2 hguard
        rw [hw]
        cases hon : A.on with
        | false =>
          simp only [Bool.false_eq_true, if_false]
          obtain ⟨q1, q2, q3⟩ := hok.off hon
          refine ih _ _ _ (by simp [hsz]) hl' hD' ⟨ρ, old, putD e o.dst (.v undef), H, skip_good g hd1, ⟨ha.keep, ha.below, fun q hq => (ha.news q hq).imp id (hmono q), ha.av, ha.fr⟩, ?_, ?_⟩
          · rw [← q1]; exact henv
          · exact hheap H (by rw [q2]; exact Lays.nothing)
        | true =>
          rw [if_pos rfl]
          obtain ⟨H2, h1, h2⟩ := stepOp_lays (H2 := H) (e2 := e) (hok.step hon) (hok.foot hon) (fun t ht => huse t (by simp [MO.uses, ht])) hreads
          rw [← hok.writes hon] at h2
          refine .inl (step_wp hC hS (mo := A.mo) (by rw [hb]; exact e1) (by rw [hb]) h1 g (fun q hq τ hqe => ?_) hd1 ?_)
          · rcases ha.news q hq with h3 | ⟨j, τ', h3, _, h4⟩
            · exact hst q h3 τ (s.k + i) (by omega) hqe
            · rw [hqe] at h4
              have := stamp_same h4
              have : i = j := by omega
              subst this
              rw [hXi] at h3; cases h3
          · intro ρ1 old1 u w1 ha1 g1 _
            refine ih _ _ _ (by simp [hsz]) hl' hD' ⟨ρ1, old1, putD e o.dst A.v, H2, g1, ha.trans ha1 hmono (fun q ⟨τ, hq⟩ => ⟨i, τ, by rw [X']; simp, by omega, hq⟩), henv, hheap H2 h2⟩

theorem draw_ok (hm : P.follows .mixedOrders = true) (hC : CallerOk P C) (hS : SpecOk P PP) : DrawOk P PP C := by
  intro n B id d ops hedge hd π s x s' h
  rw [Option.map_eq_some_iff] at h
  obtain ⟨s1, h1, h2⟩ := h
  cases h2
  unfold evDraw at h1
  split at h1
  · rename_i tr s2 htr
    split at h1
    · rename_i hin
      cases h1
      obtain ⟨hlen, hk, hat, hB, hE⟩ := evTrace_facts _ _ _ _ htr
      refine ⟨by omega, fun ρ old w a g hst Q hQ => wp_region_any hm ?_⟩
      obtain ⟨kp, hH⟩ := g.heap.same (w' := { w with drawn := w.drawn + 1 }) (old' := old) (fun b _ => rfl) (fun _ h => h)
      have haf : After d B s.H ρ old w (fun q => ∃ i τ, done (Array.replicate ops.size false) i = true ∧ i < tr.length ∧ q = τ ++ (s.k + i) :: π) s.H ρ old { w with drawn := w.drawn + 1 } :=
        ⟨kp, ⟨rfl, rfl, rfl, Nat.le_refl _, fun _ _ => rfl⟩, fun q h => .inl h, rfl, fun _ _ h => ⟨h, rfl, fun _ _ _ _ => rfl⟩⟩
      have hnone : ∀ i, done (Array.replicate ops.size false) i = false := by
        intro i
        unfold done
        by_cases hi : i < ops.size
        · simp [hi]
        · simp [hi]
      refine draw_any hC hS hedge hd htr hin (ρA := ρ) (oldA := old) (wA := w) hst hQ ops.size _ a _ (by simp) ?_ ?_ ?_
      · have : ∀ (X : Nat → Bool) m, left X m ≤ m := by
          intro X m
          induction m with
          | zero => exact Nat.le_refl _
          | succ m ih => simp only [left]; split <;> omega
        exact this _ _
      · intro j b hj; rw [hnone] at hj; cases hj
      · refine ⟨ρ, old, s.env, s.H, ⟨fun t => RelV.mono kp _ _ (g.env t), hH, g.base, g.size, g.defers, g.low⟩, haf, fun t => ?_, fun x => ?_⟩
        · rw [envAt_off tr 0 _ fun j c _ _ => hnone _]
        · rw [siteAt_off tr 0 _ fun j c _ _ => hnone _]
    · cases h1
  · cases h1
end
end Go.Proofs.Ytnccnmeecngopaa.Fw
