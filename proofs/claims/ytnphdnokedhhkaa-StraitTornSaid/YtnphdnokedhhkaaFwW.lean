/- The abstract evaluator, part W: what a law is handed, as values of the evaluator. | The abstract evaluator, part X: a law that the evaluator answers by 'true' holds as a row. | The abstract evaluator, part Sx: laws by which its runs over unknown numbers are written out. | The abstract evaluator, part Dx: a run whose choices are told beforehand; what was taken for granted comes out as a list. So a run over unknown numbers can be reckoned. | The abstract evaluator, part Ex: runs in the caller's memory and rounds of loops, as told; what a round gives. | The abstract evaluator, part Ey: functions that return inside a loop: what the round's state hands back. | Plain lemmas that the laws share: lists, counters, the first of a list that fails a test. | Laws of floats, plain. -/
import Derived.Test.YtnphdnokedhhkaaFwP
import Derived.ProofKit
import Derived.HandedShaped
import Derived.OpenShut
import Derived.Test.YtnphdnokedhhkaaFwA
set_option linter.unusedVariables false
set_option linter.unusedSimpArgs false
set_option linter.unnecessarySimpa false
namespace Go.Proofs.Ytnphdnokedhhkaa.Fw
open Go Go.RowKit Go.ChangeShapes Go.WideShapes

def FitsEach (F : TypeId → List AV → Prop) : List TypeId → List (List AV) → Prop
  | [], [] => True
  | t :: ts, p :: ps => F t p ∧ FitsEach F ts ps
  | _, _ => False

/-- the cells of a datum of a type -/
def Fits (P : Program) : Nat → TypeId → List AV → Prop
  | 0, _, _ => False
  | n + 1, t, cs =>
    match P.underlying t with
    | some .bool => ∃ b, cs = [.v (.bool b)]
    | some (.int k) => ∃ x, cs = [.v (.int k x)] ∧ (Lit.int k x).wf = true
    | some (.float .f64) => ∃ b, cs = [.flt (canon b)] ∧ b < 2 ^ 64
    | some .string => ∃ s : ByteArray, cs = [.v (.string s)] ∧ s.size ≤ reachBytes
    | some (.slice e) => cs = [.nils] ∨ ∃ els, cs = [.lst (P.cellsOf e) els] ∧ els.length * P.bytesOf e ≤ reachBytes ∧ ∀ el ∈ els, Fits P n e el
    | some (.struct fs) => ∃ parts, cs = parts.flatten ∧ FitsEach (Fits P n) (fs.toList.map (·.type)) parts
    | some (.array m e) => ∃ parts, cs = parts.flatten ∧ FitsEach (Fits P n) (List.replicate m e) parts
    | _ => False

/-- types whose data the evaluator takes -/
def plainTy (P : Program) : Nat → TypeId → Bool
  | 0, _ => false
  | n + 1, t =>
    decide (t < P.types.size) &&
    match P.underlying t with
    | some .bool | some (.int _) | some (.float .f64) | some .string => true
    | some (.slice e) => decide (0 < P.cellsOf e) && plainTy P n e
    | some (.struct fs) => fs.toList.all fun f => plainTy P n f.type
    | some (.array _ e) => plainTy P n e
    | _ => false

theorem pick {α : Type} {Q : Nat → α → Prop} : ∀ n, (∀ i, i < n → ∃ y, Q i y) → ∃ ys : List α, ys.length = n ∧ ∀ i y, ys[i]? = some y → Q i y
  | 0, _ => ⟨[], rfl, fun i y h => by simp at h⟩
  | n + 1, h => by
    obtain ⟨ys, h1, h2⟩ := pick n fun i hi => h i (by omega)
    obtain ⟨y, hy⟩ := h n (by omega)
    refine ⟨ys ++ [y], by simp [h1], fun i z hz => ?_⟩
    by_cases hi : i < n
    · rw [List.getElem?_append_left (by omega)] at hz
      exact h2 i z hz
    · rw [List.getElem?_append_right (by omega)] at hz
      have : i - ys.length = 0 := by
        rcases Nat.eq_zero_or_pos (i - ys.length) with h | h
        · exact h
        · rw [List.getElem?_eq_none (by simp; omega)] at hz; cases hz
      rw [this] at hz
      simp at hz
      subst hz
      rw [show i = n by omega]
      exact hy

section
variable {H : Type} {enc : TypeId × Value → H} {P : Program} {W : World} {sp : Nat → Bool}

/-- what a run of cells becomes -/
def Took (P : Program) (W : World) (n : Nat) (t : TypeId) (cs : List Value) (as : List AV) : Prop :=
  Fits P n t as ∧ as.length = P.cellsOf t ∧ AV.clL as = true ∧ RelL (ρ0 fun _ => False) old0 W as cs

theorem clL_append : ∀ {a b : List AV}, AV.clL a = true → AV.clL b = true → AV.clL (a ++ b) = true
  | [], b, _, h => h
  | x :: a, b, h, k => by
    simp only [AV.clL, Bool.and_eq_true, List.cons_append] at h ⊢
    exact ⟨h.1, clL_append h.2 k⟩

theorem clL_at' : ∀ {cs : List AV}, AV.clL cs = true → ∀ (j : Nat) (v : AV), cs[j]? = some v → v.cl = true
  | [], _, j, v, h => by simp at h
  | c :: r, hc, 0, v, h => by
    simp only [AV.clL, Bool.and_eq_true] at hc
    simp at h; subst h; exact hc.1
  | c :: r, hc, j + 1, v, h => by
    simp only [AV.clL, Bool.and_eq_true] at hc
    simp at h
    exact clL_at' hc.2 j v h

theorem took_parts (n : Nat) : ∀ (l : List (TypeId × Nat)) (o : Nat) (cs : List Value), (∀ (j : Nat) x, l[j]? = some x → x.2 = o + ((l.take j).map fun y => P.cellsOf y.1).sum) →
    (∀ x ∈ l, ∃ as, Took P W n x.1 ((cs.drop x.2).take (P.cellsOf x.1)) as) →
    ∃ parts, FitsEach (Fits P n) (l.map (·.1)) parts ∧ parts.flatten.length = (l.map fun y => P.cellsOf y.1).sum ∧ AV.clL parts.flatten = true ∧
      RelL (ρ0 fun _ => False) old0 W parts.flatten ((cs.drop o).take (l.map fun y => P.cellsOf y.1).sum)
  | [], o, cs, _, _ => ⟨[], by simp only [List.map_nil, FitsEach], rfl, rfl, by simp [RelL]⟩
  | x :: l, o, cs, ho, h => by
    obtain ⟨as, h1, h2, h3, h4⟩ := h x (by simp)
    have hx : x.2 = o := by simpa using ho 0 x rfl
    obtain ⟨parts, k1, k2, k3, k4⟩ := took_parts n l (o + P.cellsOf x.1) cs (fun j y hy => by
      have := ho (j + 1) y (by simpa using hy)
      simp only [List.take_succ_cons, List.map_cons, List.sum_cons] at this
      omega) fun y hy => h y (by simp [hy])
    refine ⟨as :: parts, by simp only [List.map_cons, FitsEach]; exact ⟨h1, k1⟩, by simp [h2, k2], clL_append h3 k3, ?_⟩
    simp only [List.map_cons, List.sum_cons, List.flatten_cons]
    rw [List.take_add, List.drop_drop]
    rw [hx] at h4
    exact h4.append k4

theorem trod_float {base fuel : Nat} {held : Bool} {t : TypeId} {k : FloatKind} {cs : List Value} {x : DataW H × List MemPlace} (ht : P.underlying t = some (.float k)) (h : DataW.trod enc P W base sp held fuel t cs = some x) : ∃ b, cs = [.float k b] ∧ x = (.lit (.float k b), []) ∧ (Lit.float k b).wf = true := by
  cases fuel with
  | zero => simp [DataW.trod] at h
  | succ n =>
    unfold DataW.trod at h
    rw [ht] at h
    split at h <;> simp_all

theorem trod_took (hl : laidOutB P = true) : ∀ (n fuel : Nat) (t : TypeId) (cs : List Value) (x : DataW H × List MemPlace), plainTy P n t = true → DataW.trod enc P W 0 sp true fuel t cs = some x →
    (∀ y ∈ x.1.weights P t, y ≤ reachBytes) → ∃ as, Took P W n t cs as ∧ cs.length = P.cellsOf t
  | 0, fuel, t, cs, x, hp, h, hw => by simp [plainTy] at hp
  | n + 1, fuel, t, cs, x, hp, h, hw => by
    have hno : ∀ b, ¬ owned (ρ0 fun _ => False) b := noown _ (fun _ h => h)
    simp only [plainTy, Bool.and_eq_true, decide_eq_true_eq] at hp
    obtain ⟨hrow, hp⟩ := hp
    have one : ∀ {a : AV} {u : Value}, P.cellsOf t = 1 → Fits P (n + 1) t [a] → a.cl = true → RelV (ρ0 fun _ => False) old0 W a u → ∃ as, Took P W (n + 1) t [u] as ∧ [u].length = P.cellsOf t := by
      intro a u hc hf hcl hr
      exact ⟨[a], ⟨hf, by simp [hc], by simp [AV.clL, hcl], by simp only [RelL]; exact ⟨hr, trivial⟩⟩, by simp [hc]⟩
    cases ht : P.underlying t with
    | none => rw [ht] at hp; cases hp
    | some k =>
      have c1 : ∀ {k}, P.underlying t = some k → (match k with | .bool => True | .int _ => True | .float _ => True | .string => True | .slice _ => True | _ => False) → P.cellsOf t = 1 := by
        intro k hk hm
        have := rowFine_of hl hrow
        simp [rowFine, isVar, hrow, hk] at this
        revert this
        cases k <;> simp_all [kindOk]
      rw [ht] at hp
      cases k <;> first | (cases hp; done) | skip
      case bool =>
        obtain ⟨b, rfl, rfl⟩ := DataW.trod_bool ht h
        exact one (a := .v (.bool b)) (c1 ht trivial) (by simp only [Fits, ht]; exact ⟨b, rfl⟩) rfl (by simp only [RelV])
      case int k =>
        obtain ⟨b, rfl, rfl, hwf⟩ := DataW.trod_int ht h
        exact one (a := .v (.int k b)) (c1 ht trivial) (by simp only [Fits, ht]; exact ⟨b, rfl, hwf⟩) rfl (by simp only [RelV])
      case float k =>
        cases k with
        | f32 => simp at hp
        | f64 =>
          obtain ⟨b, rfl, rfl, hwf⟩ := trod_float ht h
          exact one (a := .flt (canon b)) (c1 ht trivial) (by simp only [Fits, ht]; exact ⟨b, rfl, by simpa [Lit.wf] using hwf⟩) rfl (by simp only [RelV]; exact ⟨b, rfl, rfl⟩)
      case string =>
        obtain ⟨s, rfl, rfl, hs⟩ := DataW.trod_string ht h
        refine one (a := .v (.string s)) (c1 ht trivial) (by simp only [Fits, ht]; exact ⟨s, rfl, by simpa [DataW.weights] using hw⟩) rfl (by simp only [RelV])
      case slice e =>
        simp only [Bool.and_eq_true, decide_eq_true_eq] at hp
        obtain ⟨hz, hpe⟩ := hp
        rcases DataW.trod_slice ht h with ⟨rfl, rfl⟩ | ⟨a, len, cap, elems, rest, m, rfl, rfl, rfl, _, hlc, hcm, hlen, helem, _, _⟩
        · exact one (a := .nils) (c1 ht trivial) (by simp [Fits, ht]) rfl (by simp only [RelV])
        · simp only [DataW.weights, ht, List.mem_cons, List.mem_append, forall_eq_or_imp] at hw
          obtain ⟨hw1, hw2⟩ := hw
          have hwe : ∀ (i : Nat) (y : DataW H × List MemPlace), elems[i]? = some y → ∀ z ∈ y.1.weights P e, z ≤ reachBytes := by
            intro i y hy z hz
            refine hw2 z (.inl ?_)
            have : ∀ (l : List (DataW H)) (d : DataW H), d ∈ l → z ∈ d.weights P e → z ∈ DataW.weightsAll P e l := by
              intro l
              induction l with
              | nil => intro d hd; simp at hd
              | cons c r ih =>
                intro d hd hz
                simp only [DataW.weightsAll, List.mem_append]
                rcases List.mem_cons.1 hd with rfl | hd
                · exact .inl hz
                · exact .inr (ih d hd hz)
            exact this _ y.1 (List.mem_map.2 ⟨y, List.mem_of_getElem? hy, rfl⟩) hz
          have hspot0 : 0 < len → a.spot = none := by
            intro hi
            have h1 := helem 0 hi
            have h2 : elems[0]? = some (elems[0]'(by omega)) := by simp
            rw [h2, Option.bind_eq_some_iff] at h1
            obtain ⟨ci, h3, h4⟩ := h1
            obtain ⟨_, h5, h6⟩ := World.cells?_some h3
            have g0 := h6 0 hz
            obtain ⟨c0, hc0⟩ : ∃ c0, ci[0]? = some c0 := by
              cases ci with
              | nil => simp at h5; omega
              | cons c _ => exact ⟨c, rfl⟩
            rw [hc0] at g0
            simpa [Addr.add] using World.cell?_spot g0
          have each : ∀ i, i < len → ∃ as, Fits P n e as ∧ as.length = P.cellsOf e ∧ AV.clL as = true ∧ a.spot = none ∧ ∀ (j : Nat) (c : AV), as[j]? = some c → ∃ u, W.cell? ⟨a.block, a.off + i * P.cellsOf e + j, none⟩ = some u ∧ RelV (ρ0 fun _ => False) old0 W c u := by
            intro i hi
            have h1 := helem i hi
            have h2 : elems[i]? = some (elems[i]'(by omega)) := by simp [hlen, hi]
            rw [h2, Option.bind_eq_some_iff] at h1
            obtain ⟨ci, h3, h4⟩ := h1
            obtain ⟨_, h5, h6⟩ := World.cells?_some h3
            obtain ⟨as, ⟨k1, k2, k3, k4⟩, _⟩ := trod_took hl n m e ci _ hpe h4 (hwe i _ h2)
            have hspot := hspot0 (by omega)
            refine ⟨as, k1, k2, k3, hspot, fun j c hj => ?_⟩
            obtain ⟨u, hu, hr⟩ := relL_at k4 j c hj
            have hjz : j < P.cellsOf e := by rw [← k2]; exact (List.getElem?_eq_some_iff.1 hj).1
            have := h6 j hjz
            rw [hu] at this
            refine ⟨u, ?_, hr⟩
            have ha : a = ⟨a.block, a.off, none⟩ := by cases a; simp_all
            rw [← this]
            rw [show (a.add (i * P.cellsOf e)).add j = ⟨a.block, a.off + i * P.cellsOf e + j, none⟩ by rw [ha, add_plain, add_plain]]
          obtain ⟨els, hl1, hl2⟩ := pick len each
          subst hl1
          refine one (a := .lst (P.cellsOf e) els) (c1 ht trivial) ?_ rfl ?_
          · simp only [Fits, ht]
            refine .inr ⟨els, rfl, ?_, fun el hel => ?_⟩
            · refine Nat.le_trans (Nat.mul_le_mul_right _ ?_) hw1
              simp [hlen]
            · obtain ⟨i, hi⟩ := List.mem_iff_getElem?.1 hel
              exact (hl2 i el hi).1
          · simp only [RelV]
            refine .inr ⟨a, cap, rfl, hlc, fun hne => ?_, els_of_at (hno _) fun i cs hi => ?_⟩
            · cases hq : els with
              | nil => exact absurd hq hne
              | cons c r => exact (hl2 0 c (by simp [hq])).2.2.2.1
            · obtain ⟨q1, q2, q3, q4, q5⟩ := hl2 i cs hi
              refine ⟨q2, fun j c hj => ⟨clL_at' q3 j c hj, q5 j c hj⟩⟩
      case struct fs =>
        obtain ⟨xs, m, rfl, rfl, hlen, hxl, hx⟩ := DataW.trod_struct ht h
        obtain ⟨_, hsum, hoff⟩ := kid_struct hl hrow ht
        simp only [DataW.weights, ht] at hw
        have hwe : ∀ (i : Nat) f y, fs.toList[i]? = some f → xs[i]? = some y → ∀ z ∈ y.1.weights P f.type, z ≤ reachBytes := by
          have : ∀ (l : List TypeId) (ds : List (DataW H)), (∀ z ∈ DataW.weightsEach P l ds, z ≤ reachBytes) → ∀ (i : Nat) t d, l[i]? = some t → ds[i]? = some d → ∀ z ∈ d.weights P t, z ≤ reachBytes := by
            intro l
            induction l with
            | nil => intro ds _ i t d hi; simp at hi
            | cons c r ih =>
              intro ds hd i t d hi hdi
              cases ds with
              | nil => simp at hdi
              | cons d0 ds =>
                simp only [DataW.weightsEach, List.mem_append] at hd
                cases i with
                | zero => simp at hi hdi; subst hi; subst hdi; exact fun z hz => hd z (.inl hz)
                | succ i => simp at hi hdi; exact ih ds (fun z hz => hd z (.inr hz)) i t d hi hdi
          intro i f y hf hy
          exact this _ _ hw i f.type y.1 (by simp [List.getElem?_map, hf]) (by simp [List.getElem?_map, hy])
        have := took_parts (P := P) (W := W) n (fs.toList.map fun f => (f.type, f.offset)) 0 cs (fun j y hy => by
          simp only [List.getElem?_map, Option.map_eq_some_iff] at hy
          obtain ⟨f, hf, rfl⟩ := hy
          have := hoff j f hf
          simp only [Nat.zero_add, ← List.map_take, List.map_map]
          exact this) (fun y hy => by
          simp only [List.mem_map] at hy
          obtain ⟨f, hf, rfl⟩ := hy
          obtain ⟨i, hi⟩ := List.mem_iff_getElem?.1 hf
          have h1 := hx i f (by simpa using hi)
          have hil : i < xs.length := by rw [hxl]; simpa using (List.getElem?_eq_some_iff.1 hi).1
          rw [show xs[i]? = some xs[i] by simp [hil]] at h1
          obtain ⟨as, k, _⟩ := trod_took hl n m f.type _ _ (by simpa using List.all_eq_true.1 hp f hf) h1 (hwe i f _ hi (by simp [hil]))
          exact ⟨as, k⟩)
        obtain ⟨parts, k1, k2, k3, k4⟩ := this
        simp only [List.map_map] at k1 k2 k4
        have hs : (fs.toList.map ((fun y : TypeId × Nat => P.cellsOf y.1) ∘ fun f => (f.type, f.offset))).sum = P.cellsOf t := by rw [hsum]; rfl
        rw [hs] at k2 k4
        refine ⟨parts.flatten, ⟨?_, k2, k3, ?_⟩, hlen⟩
        · simp only [Fits, ht]
          exact ⟨parts, rfl, k1⟩
        · rw [List.drop_zero, List.take_of_length_le (by omega)] at k4
          exact k4
      case array z e =>
        obtain ⟨xs, m, rfl, rfl, hlen, hxl, hx⟩ := DataW.trod_array ht h
        obtain ⟨_, hsum⟩ := kid_array hl hrow ht
        simp only [DataW.weights, ht] at hw
        have hwe : ∀ (i : Nat) y, xs[i]? = some y → ∀ z ∈ y.1.weights P e, z ≤ reachBytes := by
          have : ∀ (l : List (DataW H)), (∀ z ∈ DataW.weightsAll P e l, z ≤ reachBytes) → ∀ (i : Nat) d, l[i]? = some d → ∀ z ∈ d.weights P e, z ≤ reachBytes := by
            intro l
            induction l with
            | nil => intro _ i d hi; simp at hi
            | cons c r ih =>
              intro hd i d hi
              simp only [DataW.weightsAll, List.mem_append] at hd
              cases i with
              | zero => simp at hi; subst hi; exact fun z hz => hd z (.inl hz)
              | succ i => simp at hi; exact ih (fun z hz => hd z (.inr hz)) i d hi
          intro i y hy
          exact this _ hw i y.1 (by simp [List.getElem?_map, hy])
        have sums : ∀ (l : List Nat), (l.map fun _ => P.cellsOf e).sum = l.length * P.cellsOf e := by
          intro l
          induction l with
          | nil => simp
          | cons c r ih => simp only [List.map_cons, List.sum_cons, ih, List.length_cons, Nat.add_mul]; omega
        have := took_parts (P := P) (W := W) n ((List.range z).map fun i => (e, i * P.cellsOf e)) 0 cs (fun j y hy => by
          simp only [List.getElem?_map, Option.map_eq_some_iff] at hy
          obtain ⟨f, hf, rfl⟩ := hy
          have hj := (List.getElem?_eq_some_iff.1 hf).1
          simp at hj
          simp only [List.getElem?_range hj, Option.some.injEq] at hf
          subst hf
          simp only [Nat.zero_add, ← List.map_take, List.map_map, Function.comp_def]
          rw [sums]
          simp
          rw [Nat.min_eq_left (by omega)]) (fun y hy => by
          simp only [List.mem_map, List.mem_range] at hy
          obtain ⟨i, hi, rfl⟩ := hy
          have h1 := hx i hi
          have hil : i < xs.length := by omega
          rw [show xs[i]? = some xs[i] by simp [hil]] at h1
          obtain ⟨as, k, _⟩ := trod_took hl n m e _ _ hp h1 (hwe i _ (by simp [hil]))
          exact ⟨as, k⟩)
        obtain ⟨parts, k1, k2, k3, k4⟩ := this
        simp only [List.map_map, Function.comp_def] at k1 k2 k4
        rw [sums] at k2 k4
        simp only [List.length_range] at k2 k4
        rw [← hsum] at k2 k4
        refine ⟨parts.flatten, ⟨?_, k2, k3, ?_⟩, hlen⟩
        · simp only [Fits, ht]
          refine ⟨parts, rfl, ?_⟩
          rw [show List.replicate z e = (List.range z).map fun _ => e by simp [List.map_const']]
          exact k1
        · rw [List.drop_zero, List.take_of_length_le (by omega)] at k4
          exact k4
end
end Go.Proofs.Ytnphdnokedhhkaa.Fw
namespace Go.Proofs.Ytnphdnokedhhkaa.Fw
open Go Go.RowKit Go.ChangeShapes Go.WideShapes

/-- one argument -/
def FitsV (P : Program) (n : Nat) (t : TypeId) (a : AV) : Prop :=
  match P.underlying t with
  | some (.struct _) => ∃ cs, a = .agg cs ∧ Fits P n t cs
  | some (.array _ _) => ∃ cs, a = .agg cs ∧ Fits P n t cs
  | _ => Fits P n t [a]
def FitsVs (P : Program) (n : Nat) : List TypeId → List AV → Prop
  | [], [] => True
  | t :: ts, a :: as => FitsV P n t a ∧ FitsVs P n ts as
  | _, _ => False

section
variable {H : Type} {enc : TypeId × Value → H} {P : Program} {W : World} {sp : Nat → Bool} {n : Nat}

theorem okWide_float {w : World} {r : Reach} {base : Nat} {t : TypeId} {v : Value} {k : FloatKind} (ht : P.underlying t = some (.float k)) (h : Value.okWide P w r base t v) : ∃ x, v = .float k x := by
  simp only [Value.okWide, ht, Cell.okWide, Cell.ok] at h
  cases v <;> simp_all

theorem arg_took (hl : laidOutB P = true) {base : Nat} {t : TypeId} {v : Value} {d : DataW H} {ps : List MemPlace} (hp : plainTy P n t = true) (hval : Value.okWide P W .any base t v) (hd : DataW.Trod enc P W 0 sp true t v d ps)
    (hw : ∀ y ∈ d.weights P t, y ≤ reachBytes) : ∃ a, FitsV P n t a ∧ RelV (ρ0 fun _ => False) old0 W a v := by
  obtain ⟨fuel, hf⟩ := hd
  obtain ⟨as, ⟨h1, h2, h3, h4⟩, h5⟩ := trod_took hl n fuel t v.cells.toList _ hp hf hw
  have one : v.cells = #[v] → (∀ a, FitsV P n t a ↔ Fits P n t [a]) → ∃ a, FitsV P n t a ∧ RelV (ρ0 fun _ => False) old0 W a v := by
    intro hc hi
    rw [hc] at h4
    cases as with
    | nil => simp only [RelL] at h4
    | cons a r =>
      cases r with
      | nil => simp only [RelL] at h4; exact ⟨a, (hi a).2 h1, h4.1⟩
      | cons b r => simp only [RelL] at h4; exact h4.2.elim
  cases n with
  | zero => simp [plainTy] at hp
  | succ n =>
    simp only [plainTy, Bool.and_eq_true, decide_eq_true_eq] at hp
    obtain ⟨hrow, hp⟩ := hp
    cases ht : P.underlying t with
    | none => rw [ht] at hp; cases hp
    | some k =>
      rw [ht] at hp
      cases k <;> first | (cases hp; done) | skip
      case bool => obtain ⟨b, rfl⟩ := okWide_bool ht hval; exact one rfl fun a => by simp only [FitsV, ht]
      case int k => obtain ⟨b, rfl⟩ := okWide_int ht hval; exact one rfl fun a => by simp only [FitsV, ht]
      case float k => obtain ⟨b, rfl⟩ := okWide_float ht hval; exact one rfl fun a => by simp only [FitsV, ht]
      case string => obtain ⟨b, rfl⟩ := okWide_string ht hval; exact one rfl fun a => by simp only [FitsV, ht]
      case slice e => obtain ⟨b, c, d, rfl⟩ := okWide_slice ht hval; exact one rfl fun a => by simp only [FitsV, ht]
      case struct fs =>
        obtain ⟨cs, rfl, _⟩ := okWide_struct ht hval
        exact ⟨.agg as, by simp only [FitsV, ht]; exact ⟨as, rfl, h1⟩, by simp only [RelV]; exact ⟨cs, rfl, h4⟩⟩
      case array m e =>
        simp only [Value.okWide, ht] at hval
        obtain ⟨cs, rfl, _⟩ := hval
        exact ⟨.agg as, by simp only [FitsV, ht]; exact ⟨as, rfl, h1⟩, by simp only [RelV]; exact ⟨cs, rfl, h4⟩⟩

theorem args_took (hl : laidOutB P = true) {base : Nat} : ∀ {ts : List TypeId} {vs : List Value} {ds : List (DataW H)} {ps : List MemPlace}, (ts.all fun t => plainTy P n t) = true →
    (∀ (j : Nat) t v, ts[j]? = some t → vs[j]? = some v → Value.okWide P W .any base t v) → DataW.TrodAll enc P W 0 sp true ts vs ds ps → (∀ y ∈ DataW.weightsEach P ts ds, y ≤ reachBytes) →
    ∃ as, FitsVs P n ts as ∧ RelL (ρ0 fun _ => False) old0 W as vs
  | [], vs, ds, ps, _, _, h, _ => by
    obtain ⟨rfl, rfl, rfl⟩ := trodAll_nil h
    exact ⟨[], by simp only [FitsVs], by simp only [RelL]⟩
  | t :: ts, vs, ds, ps, hp, hv, h, hw => by
    obtain ⟨v, vs, d, ds, p, q, rfl, rfl, rfl, h1, h2⟩ := trodAll_cons h
    simp only [List.all_cons, Bool.and_eq_true] at hp
    simp only [DataW.weightsEach, List.mem_append] at hw
    obtain ⟨a, k1, k2⟩ := arg_took hl hp.1 (hv 0 t v rfl rfl) h1 fun y hy => hw y (.inl hy)
    obtain ⟨as, k3, k4⟩ := args_took hl hp.2 (fun j t v h1 h2 => hv (j + 1) t v (by simpa using h1) (by simpa using h2)) h2 fun y hy => hw y (.inr hy)
    exact ⟨a :: as, by simp only [FitsVs]; exact ⟨k1, k3⟩, by simp only [RelL]; exact ⟨k2, k4⟩⟩

theorem args_stay (hl : laidOutB P = true) {W' : World} (hb : Below W.heap.size W W') : ∀ {ts : List TypeId} {vs : List Value} {ds : List (DataW H)} {ps : List MemPlace}, (ts.all fun t => P.readableRec t && decide (t < P.types.size)) = true →
    DataW.TrodAll enc P W 0 (fun _ => true) true ts vs ds ps → (∀ x ∈ ps, x.block < W.heap.size) → DataW.TrodAll enc P W' 0 (fun b => decide (b < W.heap.size)) true ts vs ds ps
  | [], vs, ds, ps, _, h, _ => by
    obtain ⟨rfl, rfl, rfl⟩ := trodAll_nil h
    exact trodAll_mk0
  | t :: ts, vs, ds, ps, hr, h, hlt => by
    obtain ⟨v, vs, d, ds, p, q, rfl, rfl, rfl, h1, h2⟩ := trodAll_cons h
    simp only [List.all_cons, Bool.and_eq_true, decide_eq_true_eq] at hr
    exact trodAll_cons_mk (Below.trod hl hr.1.1 hr.1.2 h1 hb fun x hx => hlt x (List.mem_append_left _ hx)) (args_stay hl hb hr.2 h2 fun x hx => hlt x (List.mem_append_right _ hx))
end

/-- THE ROW: whatever the arguments, the evaluator's answer is 'true'. -/
theorem law_lifted {C : Checked} {os : Os} {f : FuncId} {fn : Func} {s : ChangeSpec} {conds : List PathCond} {apart fresh handsOn : Bool} {H : Type} {enc : TypeId × Value → H} {n : Nat} {tb : TypeId}
    (own : ownKnob C.prog.godebug = none) (started : os.Started) (noInit : C.prog.inits.idxOf? f = none) (hfn : C.prog.funcs[f]? = some fn)
    (witness : ∃ (w : World) (tape : Tape) (i : Input), w.os = os ∧ (w.forCall tape i).Shaped C.prog ∧ i.vars = [] ∧ Input.okWide C.prog (w.forCall tape i) .any w.heap.size f i ∧
      s.pre6 enc C.prog fn conds apart (w.forCall tape i).memory i.args ∧ ({} : Assume).holds C.prog (lone (Frame.enter C.prog f i.args .normal) [] (w.forCall tape i)))
    (hl : laidOutB C.prog = true) (hplain : (fn.params.toList.all fun t => plainTy C.prog n t) = true) (hread : (fn.params.toList.all fun t => C.prog.readableRec t && decide (t < C.prog.types.size)) = true)
    (hvars : s.vars = []) (hspec : ∀ ds : List (DataW H), ds.length = fn.params.toList.length → s.fn H ds = ⟨[.lit (.bool true)], ds, []⟩)
    (hres : fn.resultTypes = #[tb]) (hbool : C.prog.underlying tb = some .bool)
    (hcall : ∀ (as : List AV) (W : World) (args : Array Value), FitsVs C.prog n fn.params.toList as → RelL (ρ0 fun _ => False) old0 W as args.toList → Calls C.prog f args W fun e w' => e = .returned (.bool true) ∧ Below W.heap.size W w') :
    ReturnsInHanded {} C os f .any (s.pre6 enc C.prog fn conds apart) (s.post enc C.prog fn apart fresh handsOn false) := by
  refine returnsInHanded_of_change_shaped own started noInit hfn witness ?_
  intro W base args ds gs before hval hW _ hwt _ _
  obtain ⟨p, q, hA, hV, hps, _, _⟩ := id hW
  rw [hvars] at hV
  obtain ⟨rfl, rfl⟩ := trodVars_none hV
  have hps' : before = p := by simpa using hps
  subst hps'
  have hlen : ∀ {ts : List TypeId} {vs : List Value} {ds : List (DataW H)} {ps : List MemPlace}, DataW.TrodAll enc C.prog W 0 (fun _ => true) true ts vs ds ps → ds.length = ts.length := by
    intro ts
    induction ts with
    | nil => intro vs ds ps h; obtain ⟨_, rfl, _⟩ := trodAll_nil h; rfl
    | cons t ts ih => intro vs ds ps h; obtain ⟨v, vs', d, ds', p, q, rfl, rfl, rfl, h1, h2⟩ := trodAll_cons h; simp [ih h2]
  have hvt : s.plain.varTypes C.prog = [] := by simp [ChangeSpec.plain, DataSpec.varTypes, hvars]
  have hw' : ∀ y ∈ DataW.weightsEach C.prog fn.params.toList ds, y ≤ reachBytes := by
    rw [hvt] at hwt
    simp only [List.append_nil] at hwt
    intro y hy
    simpa using List.all_eq_true.1 hwt y hy
  obtain ⟨as, hf, hr⟩ := args_took hl hplain (fun j t v h1 h2 => hval j t v (by simpa using h1) (by simpa using h2)) hA hw'
  refine (hcall as W args hf hr).mono ?_
  rintro e W' ⟨rfl, hb⟩
  have hs := hspec ds (hlen hA)
  refine ⟨_, rfl, ds, [], before, [], before, [], hW, ?_, ?_, ?_, hb.frame _, fun h => by cases h⟩
  · rw [List.append_nil, hs, hres]
    exact trodAll_mk1 (shut_bool hbool true)
  · rw [List.append_nil, hs]
    exact args_stay hl hb hread hA fun x hx => hW.lt x hx
  · rw [List.append_nil, hs, hvars]
    rfl

/-! ### what fits, taken apart -/
section
variable {P : Program} {n : Nat} {t : TypeId}
theorem fitsVs_cons {ts : List TypeId} {l : List AV} (h : FitsVs P n (t :: ts) l) : ∃ a r, l = a :: r ∧ FitsV P n t a ∧ FitsVs P n ts r := by
  cases l with
  | nil => simp only [FitsVs] at h
  | cons a r => simp only [FitsVs] at h; exact ⟨a, r, rfl, h.1, h.2⟩
theorem fitsVs_nil {l : List AV} (h : FitsVs P n [] l) : l = [] := by
  cases l with
  | nil => rfl
  | cons a r => simp only [FitsVs] at h
theorem fitsEach_cons {F : TypeId → List AV → Prop} {ts : List TypeId} {l : List (List AV)} (h : FitsEach F (t :: ts) l) : ∃ a r, l = a :: r ∧ F t a ∧ FitsEach F ts r := by
  cases l with
  | nil => simp only [FitsEach] at h
  | cons a r => simp only [FitsEach] at h; exact ⟨a, r, rfl, h.1, h.2⟩
theorem fitsEach_nil {F : TypeId → List AV → Prop} {l : List (List AV)} (h : FitsEach F [] l) : l = [] := by
  cases l with
  | nil => rfl
  | cons a r => simp only [FitsEach] at h
theorem fits_bool {cs : List AV} (hu : P.underlying t = some .bool) (h : Fits P (n + 1) t cs) : ∃ b, cs = [.v (.bool b)] := by simpa only [Fits, hu] using h
theorem fits_int {cs : List AV} {k : IntKind} (hu : P.underlying t = some (.int k)) (h : Fits P (n + 1) t cs) : ∃ x, cs = [.v (.int k x)] ∧ (Lit.int k x).wf = true := by simpa only [Fits, hu] using h
theorem fits_flt {cs : List AV} (hu : P.underlying t = some (.float .f64)) (h : Fits P (n + 1) t cs) : ∃ b, cs = [.flt (canon b)] ∧ b < 2 ^ 64 := by simpa only [Fits, hu] using h
theorem fits_str {cs : List AV} (hu : P.underlying t = some .string) (h : Fits P (n + 1) t cs) : ∃ s : ByteArray, cs = [.v (.string s)] ∧ s.size ≤ reachBytes := by simpa only [Fits, hu] using h
theorem fits_slice {cs : List AV} {e : TypeId} (hu : P.underlying t = some (.slice e)) (h : Fits P (n + 1) t cs) :
    cs = [.nils] ∨ ∃ els, cs = [.lst (P.cellsOf e) els] ∧ els.length * P.bytesOf e ≤ reachBytes ∧ ∀ el ∈ els, Fits P n e el := by simpa only [Fits, hu] using h
theorem fits_struct {cs : List AV} {fs : Array Field} (hu : P.underlying t = some (.struct fs)) (h : Fits P (n + 1) t cs) : ∃ parts, cs = parts.flatten ∧ FitsEach (Fits P n) (fs.toList.map (·.type)) parts := by simpa only [Fits, hu] using h
theorem fits_array {cs : List AV} {m : Nat} {e : TypeId} (hu : P.underlying t = some (.array m e)) (h : Fits P (n + 1) t cs) : ∃ parts, cs = parts.flatten ∧ FitsEach (Fits P n) (List.replicate m e) parts := by simpa only [Fits, hu] using h
theorem fitsV_struct {a : AV} {fs : Array Field} (hu : P.underlying t = some (.struct fs)) (h : FitsV P n t a) : ∃ cs, a = .agg cs ∧ Fits P n t cs := by simpa only [FitsV, hu] using h
theorem fitsV_array {a : AV} {m : Nat} {e : TypeId} (hu : P.underlying t = some (.array m e)) (h : FitsV P n t a) : ∃ cs, a = .agg cs ∧ Fits P n t cs := by simpa only [FitsV, hu] using h
theorem fitsV_bool {a : AV} (hu : P.underlying t = some .bool) (h : FitsV P n t a) : Fits P n t [a] := by simpa only [FitsV, hu] using h
theorem fitsV_int {a : AV} {k : IntKind} (hu : P.underlying t = some (.int k)) (h : FitsV P n t a) : Fits P n t [a] := by simpa only [FitsV, hu] using h
theorem fitsV_flt {a : AV} (hu : P.underlying t = some (.float .f64)) (h : FitsV P n t a) : Fits P n t [a] := by simpa only [FitsV, hu] using h
theorem fitsV_str {a : AV} (hu : P.underlying t = some .string) (h : FitsV P n t a) : Fits P n t [a] := by simpa only [FitsV, hu] using h
theorem fitsV_slice {a : AV} {e : TypeId} (hu : P.underlying t = some (.slice e)) (h : FitsV P n t a) : Fits P n t [a] := by simpa only [FitsV, hu] using h
theorem one_inj {a b : AV} (h : [a] = [b]) : a = b := (List.cons.inj h).1
end

/-- nothing is spoken for -/
theorem spec_none (P : Program) (fn : FuncId → Option FnM) (L : Nat) : SpecOk P ⟨fn, fun _ => none, L⟩ := fun f g h => by cases h
/-- the same answer, but that a nil slice may be told as an empty list -/
def Wk1 (x y : AV) : Prop := y = x ∨ (x = .nils ∧ ∃ z leaf, y = .own z [] leaf)
def WkA (x y : AV) : Prop := (∃ cs ds, x = .agg cs ∧ y = .agg ds ∧ All2 Wk1 cs ds) ∨ Wk1 x y
def WkT (x y : AV) : Prop := (∃ cs ds, x = .tup cs ∧ y = .tup ds ∧ All2 WkA cs ds) ∨ WkA x y
theorem WkT.refl (x : AV) : WkT x x := .inr (.inr (.inl rfl))
theorem all2_comp {F G K : AV → AV → Prop} (h : ∀ x y z, F x y → G y z → K x z) : ∀ {xs ys zs : List AV}, All2 F xs ys → All2 G ys zs → All2 K xs zs
  | [], [], [], _, _ => trivial
  | x :: xs, y :: ys, z :: zs, h1, h2 => ⟨h _ _ _ h1.1 h2.1, all2_comp h h1.2 h2.2⟩
  | [], _ :: _, _, h1, _ => h1.elim
  | _ :: _, [], _, h1, _ => h1.elim
  | [], [], _ :: _, _, h2 => h2.elim
  | _ :: _, _ :: _, [], _, h2 => h2.elim
theorem PkC.wk {all : Bool} {d : Nat} {H : Heap} {x y z : AV} (h : PkC all d H x y) (k : Wk1 y z) : PkC all d H x z := by
  rcases k with rfl | ⟨rfl, w, l, rfl⟩
  · exact h
  · rcases h with h | ⟨_, _, _, h⟩
    · exact .inr ⟨h, w, l, rfl⟩
    · cases h
theorem PkA.wk {all : Bool} {d : Nat} {H : Heap} {x y z : AV} (h : PkA all d H x y) (k : WkA y z) : PkA all d H x z := by
  rcases h with ⟨cs, ds, rfl, rfl, h⟩ | ⟨hn, h⟩
  · rcases k with ⟨es, fs, e, rfl, k⟩ | rfl | ⟨e, _⟩
    · cases e; exact .inl ⟨_, _, rfl, rfl, all2_comp (F := PkC all d H) (G := Wk1) (K := PkC all d H) (fun _ _ _ => PkC.wk) h k⟩
    · exact .inl ⟨_, _, rfl, rfl, h⟩
    · cases e
  · rcases k with ⟨es, fs, rfl, rfl, k⟩ | k
    · exact absurd rfl ((pkC_ne h).1 _)
    · exact .inr ⟨hn, h.wk k⟩
theorem pkA_tup {all : Bool} {d : Nat} {H : Heap} {x : AV} {ds : List AV} (h : PkA all d H x (.tup ds)) : False := by
  rcases h with ⟨cs, ds, _, h, _⟩ | ⟨_, h⟩
  · cases h
  · exact (pkC_ne h).2 _ rfl
theorem PkT.wk {all : Bool} {d : Nat} {H : Heap} {x y z : AV} (h : PkT all d H x y) (k : WkT y z) : PkT all d H x z := by
  rcases h with ⟨cs, ds, rfl, rfl, h⟩ | ⟨hn, h⟩
  · rcases k with ⟨es, fs, e, rfl, k⟩ | ⟨_, _, e, _⟩ | rfl | ⟨e, _⟩
    · cases e; exact .inl ⟨_, _, rfl, rfl, all2_comp (F := PkA all d H) (G := WkA) (K := PkA all d H) (fun _ _ _ => PkA.wk) h k⟩
    · cases e
    · exact .inl ⟨_, _, rfl, rfl, h⟩
    · cases e
  · rcases k with ⟨es, fs, rfl, rfl, k⟩ | k
    · exact (pkA_tup h).elim
    · exact .inr ⟨hn, h.wk k⟩
/-- what is handed in: a nil slice may be told as an empty list -/
def Wi1 (x y : AV) : Prop := y = x ∨ (x = .nils ∧ ∃ z, y = .lst z [])
def WiA (x y : AV) : Prop := (∃ cs ds, x = .agg cs ∧ y = .agg ds ∧ All2 Wi1 cs ds) ∨ Wi1 x y
theorem Wi1.refl (x : AV) : Wi1 x x := .inl rfl
theorem WiA.refl (x : AV) : WiA x x := .inr (.inl rfl)
theorem all2_refl {F : AV → AV → Prop} (h : ∀ x, F x x) : ∀ xs : List AV, All2 F xs xs
  | [] => trivial
  | x :: r => ⟨h x, all2_refl h r⟩
theorem rel_wi1 {ρ : Map} {old : List Nat → Prop} {w : World} {x y : AV} {u : Value} (h : Wi1 x y) (hr : RelV ρ old w x u) : RelV ρ old w y u := by
  rcases h with rfl | ⟨rfl, z, rfl⟩
  · exact hr
  · simp only [RelV] at hr ⊢; exact .inl ⟨trivial, hr⟩
theorem relL_all2 {ρ : Map} {old : List Nat → Prop} {w : World} {F : AV → AV → Prop} (hF : ∀ x y u, F x y → RelV ρ old w x u → RelV ρ old w y u) : ∀ {xs ys : List AV} {us : List Value}, All2 F xs ys → RelL ρ old w xs us → RelL ρ old w ys us
  | [], [], [], _, _ => by simp only [RelL]
  | x :: xs, y :: ys, u :: us, h, hr => by
    simp only [RelL] at hr ⊢
    exact ⟨hF _ _ _ h.1 hr.1, relL_all2 hF h.2 hr.2⟩
  | [], _ :: _, _, h, _ => h.elim
  | _ :: _, [], _, h, _ => h.elim
  | [], [], _ :: _, _, hr => by simp only [RelL] at hr
  | _ :: _, _ :: _, [], _, hr => by simp only [RelL] at hr
theorem rel_wiA {ρ : Map} {old : List Nat → Prop} {w : World} {x y : AV} {u : Value} (h : WiA x y) (hr : RelV ρ old w x u) : RelV ρ old w y u := by
  rcases h with ⟨cs, ds, rfl, rfl, h⟩ | h
  · simp only [RelV] at hr ⊢
    obtain ⟨ys, e, h1⟩ := hr
    exact ⟨ys, e, relL_all2 (fun _ _ _ => rel_wi1) h h1⟩
  · exact rel_wi1 h hr
theorem relL_wi {ρ : Map} {old : List Nat → Prop} {w : World} {xs ys : List AV} {us : List Value} (h : All2 WiA xs ys) (hr : RelL ρ old w xs us) : RelL ρ old w ys us := relL_all2 (fun _ _ _ => rel_wiA) h hr
/-- one function more is spoken for: the evaluator itself vouches for it. -/
theorem spec_add {P : Program} {fn : FuncId → Option FnM} {spec : FuncId → Option (List AV → Option AV)} (hS : SpecOk P ⟨fn, spec, 0⟩) (hF : ∀ L, FnsOk P ⟨fn, spec, L⟩) (hm : P.follows .mixedOrders = true) (f0 : FuncId)
    (g0 : List AV → Option AV) (hi : FnIs P f0) (hg : ∀ avs r, g0 avs = some r → ∃ avs1 L k r1, All2 WiA avs avs1 ∧ den ⟨fn, spec, L⟩ k f0 avs1 = some r1 ∧ WkT r1 r) : SpecOk P ⟨fn, fun f => if f = f0 then some g0 else spec f, 0⟩ := by
  intro f g h
  simp only at h
  split at h
  · rename_i hf
    cases h
    subst hf
    refine ⟨hi, fun avs r hr w cargs hrel => ?_⟩
    obtain ⟨avs1, L, k, r1, hwi, hd, hwk⟩ := hg avs r hr
    replace hrel := relL_wi hwi hrel
    unfold den at hd
    split at hd <;> first | (cases hd; done) | skip
    rename_i r0 H0 hrun
    split at hd <;> first | (cases hd; done) | skip
    rename_i hdis
    have hS' : SpecOk P ⟨fn, spec, L⟩ := hS
    have hnil : HRel w.heap.size (ρ0 fun _ => False) old0 w [] := ⟨fun s blk hg => by simp [Heap.get] at hg, fun _ _ h => h.elim, fun s b z q e => by simp [ρ0] at e, fun s s' b z z' q q' e _ => by simp [ρ0] at e⟩
    refine ((runF_ok hS' (hF L) (fun C hC => draw_ok hm hC hS') k) _ _ _ _ _ _ _ hrun (Low.nil 0) w.heap.size _ _ w cargs hrel hnil (Nat.le_refl _) (fun q hq => hq.elim)).2.mono ?_
    rintro e w' ⟨u, ρ', old', he, k1, hu, hH, hb, hs, hav, hfr⟩
    exact ⟨r0, H0, ⟨u, ρ', old', he, k1, hu, hH, hb, fun q hq => (hs q hq).imp id fun _ => trivial, hav, hfr⟩, hdis, (pkT_of hd).wk hwk⟩
  · exact hS f g h

/-- the same, told plainly -/
theorem spec_add0 {P : Program} {fn : FuncId → Option FnM} {spec : FuncId → Option (List AV → Option AV)} (hS : SpecOk P ⟨fn, spec, 0⟩) (hF : ∀ L, FnsOk P ⟨fn, spec, L⟩) (hm : P.follows .mixedOrders = true) (f0 : FuncId)
    (g0 : List AV → Option AV) (hi : FnIs P f0) (hg : ∀ avs r, g0 avs = some r → ∃ L k, den ⟨fn, spec, L⟩ k f0 avs = some r) : SpecOk P ⟨fn, fun f => if f = f0 then some g0 else spec f, 0⟩ :=
  spec_add hS hF hm f0 g0 hi fun avs r h => by
    obtain ⟨L, k, hd⟩ := hg avs r h
    exact ⟨avs, L, k, r, all2_refl WiA.refl _, hd, WkT.refl _⟩
/-- a function that hands back plain values, by hand -/
theorem specPost_flat {w w' : World} {r : AV} {e : Ending} {u : Value} (he : e = .returned u) (hd : r.dry = true) (hr : RelV (ρ0 fun _ => False) old0 w' r u) (hb : Below w.heap.size w w') : SpecPost w r e w' := by
  have hnil : HRel w.heap.size (ρ0 fun _ => False) old0 w' [] := ⟨fun s blk hg => by simp [Heap.get] at hg, fun _ _ h => h.elim, fun s b z q e => by simp [ρ0] at e, fun s s' b z z' q q' e _ => by simp [ρ0] at e⟩
  have hp : packT true 0 [] r = some r := by cases r <;> simp [AV.dry] at hd <;> rfl
  refine ⟨r, [], ⟨u, ρ0 fun _ => False, old0, he, ⟨fun b hlt hn => ⟨hb.block b hlt, hn⟩, fun _ _ _ _ e _ => e, fun _ h => h, fun _ _ _ _ e _ => by simp [ρ0] at e, fun _ _ _ => Iff.rfl⟩, hr, hnil, hb, fun q hq => .inl hq, rfl, fun s _ hs => ⟨hs, rfl, fun b z st e => by simp [ρ0] at e⟩⟩, ?_, pkT_of hp⟩
  rw [dry_refs r hd]; rfl
end Go.Proofs.Ytnphdnokedhhkaa.Fw
namespace Go.Proofs.Ytnphdnokedhhkaa.Fw
open Go Go.RowKit

/-- the body of a loop, not to be written out -/
def bodyOf (P : Prog) (C : Caller) (d : Nat) (b : MC) (π : List Nat) (s : St) : Option (Ex × St) := evC P C d b π s

/-- a loop, from a round's pruned state on -/
def LP (body : List Nat → St → Option (Ex × St)) (d : Nat) (live : List Nat) (π : List Nat) : Nat → Nat → St → Option (Ex × St)
  | 0, j, A => match body (j :: π) A with | some (.nrm, _) => none | r => r
  | n + 1, j, A => match body (j :: π) A with | some (.nrm, s) => LP body d live π n (j + 1) (prune d live s) | r => r

theorem evLoop_LP (body : List Nat → St → Option (Ex × St)) (d : Nat) (live : List Nat) (π : List Nat) : ∀ (n j : Nat) (s : St), evLoop body d live π (n + 1) j s = LP body d live π n j (prune d live s)
  | 0, j, s => by
    simp only [evLoop, LP]
    split <;> simp_all
  | n + 1, j, s => by
    rw [evLoop, LP]
    split
    · rename_i s' h
      rw [h]
      exact evLoop_LP body d live π n (j + 1) s'
    · rename_i h
      split
      · rename_i s' h'
        exact absurd h' (h s')
      · rfl

/-- what a function hands back when its body has ended -/
def runOut (r : Option (Ex × St)) (res : List RV) : Option (AV × Heap) :=
  match r with
  | some (.nrm, s) => (match resOf s res with | some r => some (r, s.H) | none => none)
  | some (.ret, s) => (match resOf s res with | some r => some (r, s.H) | none => none)
  | _ => none

section
variable {fn : FuncId → Option FnM} {spec : FuncId → Option (List AV → Option AV)} {L : Nat} {C : Caller} {d : Nat} {π : List Nat} {s : St} {P : Prog}
theorem evC_skip : evC P C d .skip π s = some (.nrm, s) := by simp only [evC]
theorem evC_ops (l : List MO) : evC P C d (.ops l false) π s = match evOps P C d π l s with | some s => some (.nrm, s) | none => none := by
  simp only [evC]; cases evOps P C d π l s <;> rfl
theorem evC_draw (l : List MO) : evC P C d (.ops l true) π s = match evDraw P C d π l s with | some s => some (.nrm, s) | none => none := by
  simp only [evC]; cases evDraw P C d π l s <;> rfl
theorem evC_seq (a b : MC) : evC P C d (.seq a b) π s = match evC P C d a π s with | some (.nrm, s) => evC P C d b π s | some (.exit i, s) => some (.exit i, s) | some (.ret, s) => some (.ret, s) | none => none := by
  simp only [evC]
  split <;> rename_i h <;> (try simp only [h])
  split <;> simp_all
theorem evC_cond (c : Opd) (a b : MC) : evC P C d (.cond c a b) π s = match c.ev s.env with | .v (.bool t) => if t = true then evC P C d a π s else evC P C d b π s | _ => none := by
  simp only [evC]
  split
  · rename_i h; simp only [h, if_true]
  · rename_i h; simp only [h, Bool.false_eq_true, if_false]
  · rename_i h1 h2
    split
    · rename_i t h
      cases t with
      | true => exact absurd h h1
      | false => exact absurd h h2
    · rfl
theorem evC_block (id : Nat) (b : MC) : evC P C d (.block id b) π s = match evC P C d b π s with | some (.exit i, s) => if i = id then some (.nrm, s) else some (.exit i, s) | some (.nrm, s) => some (.nrm, s) | some (.ret, s) => some (.ret, s) | none => none := by
  simp only [evC]
  split <;> rename_i h <;> (try simp only [h])
  split <;> simp_all
theorem evC_exit (i : Nat) : evC P C d (.exit i) π s = some (.exit i, s) := by simp only [evC]
theorem evC_ret : evC P C d .ret π s = some (.ret, s) := by simp only [evC]

/-- a loop: rounds that go on, and one that does not -/
theorem LP_run {body : List Nat → St → Option (Ex × St)} {live : List Nat} (A : Nat → St) : ∀ (n : Nat) {L j : Nat} {x : Ex} {s' : St}, n ≤ L →
    (∀ i, i < n → ∃ s1, body ((j + i) :: π) (A i) = some (.nrm, s1) ∧ prune d live s1 = A (i + 1)) → body ((j + n) :: π) (A n) = some (x, s') → x ≠ .nrm → LP body d live π L j (A 0) = some (x, s')
  | 0, L, j, x, s', _, _, he, hx => by
    simp only [Nat.add_zero] at he
    cases L <;> simp only [LP, he] <;> cases x <;> first | rfl | exact absurd rfl hx
  | n + 1, 0, j, x, s', hn, _, _, _ => by omega
  | n + 1, L + 1, j, x, s', hn, h, he, hx => by
    obtain ⟨s1, h1, h2⟩ := h 0 (by omega)
    simp only [Nat.add_zero] at h1
    simp only [LP, h1, h2]
    refine LP_run (fun i => A (i + 1)) n (by omega) (fun i hi => ?_) ?_ hx
    · obtain ⟨s2, h3, h4⟩ := h (i + 1) (by omega)
      exact ⟨s2, by rw [show j + 1 + i = j + (i + 1) by omega]; exact h3, h4⟩
    · rw [show j + 1 + n = j + (n + 1) by omega]; exact he

/-- a round that goes on, pruned -/
def nxt (d : Nat) (live : List Nat) (r : Option (Ex × St)) : Option St := match r with | some (.nrm, s) => some (prune d live s) | _ => none
theorem LP_go {body : List Nat → St → Option (Ex × St)} {live : List Nat} (A : Nat → St) (n : Nat) {L j : Nat} {x : Ex} {s' : St} (hn : n ≤ L)
    (h : ∀ i, i < n → nxt d live (body ((j + i) :: π) (A i)) = some (A (i + 1))) (he : body ((j + n) :: π) (A n) = some (x, s')) (hx : x ≠ .nrm) : LP body d live π L j (A 0) = some (x, s') := by
  refine LP_run A n hn (fun i hi => ?_) he hx
  have := h i hi
  unfold nxt at this
  split at this
  · rename_i s1 h1; exact ⟨s1, h1, Option.some.inj this⟩
  · cases this

/-- a loop, by what holds at each round's head -/
theorem LP_inv {body : List Nat → St → Option (Ex × St)} {live : List Nat} (Inv : Nat → St → Prop) (Post : St → Prop) {x : Ex} (hx : x ≠ .nrm) : ∀ (n : Nat) {L j : Nat} {A : St}, n ≤ L → Inv j A →
    (∀ i s, j ≤ i → i < j + n → Inv i s → ∃ s', nxt d live (body (i :: π) s) = some s' ∧ Inv (i + 1) s') → (∀ s, Inv (j + n) s → ∃ s', body ((j + n) :: π) s = some (x, s') ∧ Post s') → ∃ s', LP body d live π L j A = some (x, s') ∧ Post s'
  | 0, L, j, A, _, hA, _, he => by
    obtain ⟨s', h1, h2⟩ := he A (by simpa using hA)
    simp only [Nat.add_zero] at h1
    refine ⟨s', ?_, h2⟩
    cases L <;> simp only [LP, h1] <;> cases x <;> first | rfl | exact absurd rfl hx
  | n + 1, 0, j, A, hn, _, _, _ => by omega
  | n + 1, L + 1, j, A, hn, hA, h, he => by
    obtain ⟨s1, h1, h2⟩ := h j A (Nat.le_refl _) (by omega) hA
    unfold nxt at h1
    split at h1
    · rename_i s0 hb
      cases h1
      simp only [LP, hb]
      refine LP_inv Inv Post hx n (by omega) h2 (fun i s hi hlt hI => h i s (by omega) (by omega) hI) fun s hI => ?_
      rw [show j + 1 + n = j + (n + 1) by omega] at hI ⊢
      exact he s hI
    · cases h1

/-! operators, one by one -/
def iand (k : IntKind) (a b : Int) : Int := k.wrap ((BitVec.ofInt k.bits a &&& BitVec.ofInt k.bits b).toNat)
def ior (k : IntKind) (a b : Int) : Int := k.wrap ((BitVec.ofInt k.bits a ||| BitVec.ofInt k.bits b).toNat)
def ixor (k : IntKind) (a b : Int) : Int := k.wrap ((BitVec.ofInt k.bits a ^^^ BitVec.ofInt k.bits b).toNat)
def iandNot (k : IntKind) (a b : Int) : Int := k.wrap ((BitVec.ofInt k.bits a &&& ~~~ BitVec.ofInt k.bits b).toNat)
theorem iadd_def {k : IntKind} {a b : Int} : intBin .add k a b = some (.int k (k.wrap (a + b))) := rfl
theorem isub_def {k : IntKind} {a b : Int} : intBin .sub k a b = some (.int k (k.wrap (a - b))) := rfl
theorem imul_def {k : IntKind} {a b : Int} : intBin .mul k a b = some (.int k (k.wrap (a * b))) := rfl
theorem iquo_def {k : IntKind} {a b : Int} : intBin .quo k a b = if b = 0 then none else some (.int k (k.wrap (a.tdiv b))) := rfl
theorem irem_def {k : IntKind} {a b : Int} : intBin .rem k a b = if b = 0 then none else some (.int k (a.tmod b)) := rfl
theorem iand_def {k : IntKind} {a b : Int} : intBin .and k a b = some (.int k (iand k a b)) := rfl
theorem ior_def {k : IntKind} {a b : Int} : intBin .or k a b = some (.int k (ior k a b)) := rfl
theorem ixor_def {k : IntKind} {a b : Int} : intBin .xor k a b = some (.int k (ixor k a b)) := rfl
theorem iandNot_def {k : IntKind} {a b : Int} : intBin .andNot k a b = some (.int k (iandNot k a b)) := rfl
theorem ieql_def {k : IntKind} {a b : Int} : intBin .eql k a b = some (.bool (decide (a = b))) := rfl
theorem ineq_def {k : IntKind} {a b : Int} : intBin .neq k a b = some (.bool (!decide (a = b))) := rfl
theorem ilss_def {k : IntKind} {a b : Int} : intBin .lss k a b = some (.bool (decide (a < b))) := rfl
theorem ileq_def {k : IntKind} {a b : Int} : intBin .leq k a b = some (.bool (decide (a ≤ b))) := rfl
theorem igtr_def {k : IntKind} {a b : Int} : intBin .gtr k a b = some (.bool (decide (b < a))) := rfl
theorem igeq_def {k : IntKind} {a b : Int} : intBin .geq k a b = some (.bool (decide (b ≤ a))) := rfl
theorem wrap_id {n : Int} (h : -9223372036854775808 ≤ n ∧ n ≤ 9223372036854775807) : IntKind.wrap .i64 n = n := by
  simp [IntKind.wrap, IntKind.signed, IntKind.bits]
  (try split) <;> omega
theorem iand_mask {q : Int} {m : Nat} (hm : m < 64) : iand .i64 q ((2 ^ m - 1 : Nat) : Int) = q % 2 ^ m := by
  have h1 : (BitVec.ofInt 64 q &&& BitVec.ofInt 64 ((2 ^ m - 1 : Nat) : Int)).toNat = (q % 2 ^ m).toNat := by
    have hlt : 2 ^ m ≤ 2 ^ 63 := Nat.pow_le_pow_right (by decide) (by omega)
    have e0 : BitVec.ofInt 64 ((2 ^ m - 1 : Nat) : Int) = BitVec.ofNat 64 (2 ^ m - 1) := by simp
    rw [e0, BitVec.toNat_and, BitVec.toNat_ofNat, BitVec.toNat_ofInt, Nat.mod_eq_of_lt (by omega), Nat.and_two_pow_sub_one_eq_mod]
    have hd : ((2 ^ m : Nat) : Int) ∣ ((2 ^ 64 : Nat) : Int) := Int.natCast_dvd_natCast.2 (Nat.pow_dvd_pow 2 (by omega))
    have h3 : 0 ≤ q % ((2 ^ 64 : Nat) : Int) := Int.emod_nonneg _ (by decide)
    have h4 : (0 : Int) ≤ q % 2 ^ m := Int.emod_nonneg _ (by have : (0 : Int) < 2 ^ m := Int.pow_pos (by decide); omega)
    have h5 : (((q % ((2 ^ 64 : Nat) : Int)).toNat % 2 ^ m : Nat) : Int) = q % 2 ^ m := by
      rw [Int.natCast_emod, Int.toNat_of_nonneg h3, Int.emod_emod_of_dvd _ hd]
      simp
    omega
  have h2 : (0 : Int) ≤ q % 2 ^ m := Int.emod_nonneg _ (by have : (0 : Int) < 2 ^ m := Int.pow_pos (by decide); omega)
  have h6 : q % 2 ^ m < 2 ^ 63 := Int.lt_of_lt_of_le (Int.emod_lt_of_pos _ (Int.pow_pos (by decide))) (by exact_mod_cast Nat.pow_le_pow_right (by decide : 0 < 2) (by omega : m ≤ 63))
  show IntKind.wrap .i64 ((BitVec.ofInt 64 q &&& BitVec.ofInt 64 ((2 ^ m - 1 : Nat) : Int)).toNat : Int) = _
  rw [h1, Int.toNat_of_nonneg h2]
  exact wrap_id (by omega)

/-- a call by values -/
theorem callIn_den {n t : Nat} {st : List Nat} {f : FuncId} {args : List AV} {H : Heap} (hs : P.spec f = none) :
    callIn P (runF P n) false d t st f args H = match optList (freeze H 8) args with | none => none | some avs => match den P n f avs with | some r => some (thawT d t st H r) | none => none := by
  unfold callIn den
  simp only [hs, Bool.false_eq_true, if_false]
  cases optList (freeze H 8) args with
  | none => rfl
  | some avs =>
    simp only
    cases runF P n 0 [] f avs [] with
    | none => rfl
    | some x =>
      obtain ⟨r, H1⟩ := x
      simp only
      by_cases hd : distinct r.refs = true
      · simp only [hd, if_true]
        cases packT true 0 H1 r <;> rfl
      · simp only [hd, if_false]
        rfl
theorem callIn_spec {inl : Bool} {t : Nat} {st : List Nat} {f : FuncId} {args : List AV} {H : Heap} {g : List AV → Option AV} (hs : P.spec f = some g) :
    callIn P C inl d t st f args H = match optList (freeze H 8) args with | none => none | some avs => match g avs with | some r => if r.refs.isEmpty = true then some (thawT d t st H r) else none | none => none := by
  unfold callIn
  simp only [hs]
  cases optList (freeze H 8) args with
  | none => rfl
  | some avs => simp only; cases g avs <;> rfl
theorem runF_fn {n : Nat} {f : FuncId} {args : List AV} {H : Heap} {fm : FnM} (hf : P.fn f = some fm) :
    runF P (n + 1) d π f args H = runOut (evC P (runF P n) d fm.code π ⟨argEnv 0 args, H, 0⟩) fm.res := by
  unfold runOut
  simp only [runF, hf]
  cases evC P (runF P n) d fm.code π ⟨argEnv 0 args, H, 0⟩ with
  | none => rfl
  | some x =>
    obtain ⟨x, s⟩ := x
    cases x with
    | nrm => simp only; cases resOf s fm.res <;> rfl
    | ret => simp only; cases resOf s fm.res <;> rfl
    | exit i => rfl
end
end Go.Proofs.Ytnphdnokedhhkaa.Fw
namespace Go.Proofs.Ytnphdnokedhhkaa.Fw
open Go Go.RowKit

/-- what is told of an operation (by the slot it fills), or of a loop -/
inductive Dec where
  | b (x : Bool)
  | n (x : Int)
  | el (cs : List AV)
  | call (r : AV)
  | push
  | ix (k : Nat)
  | calli (r : AV) (H : Heap)
  | val (v : AV)
  | div
  | cat
  | mk (l c : Nat) (full : Bool) (els : List (List AV))
  | any (v : AV) (H : Heap)
  | loop (x : Ex) (s : St)
abbrev Ora := List (Option Nat × Dec)
/-- what was taken for granted -/
inductive Con where
  | b (t x : Bool)
  | n (t x : Int)
  | el (els : List (List AV)) (i : AV) (cs : List AV)
  | call (f : FuncId) (avs : List AV) (r : AV)
  | spec (f : FuncId) (avs : List AV) (r : AV)
  | nz (b : Int)
  | cat (z bytes : Nat) (leaf : Bool) (new : List (List AV))
  | mk (l c : Nat) (full : Bool) (els : List (List AV)) (li ci : Int) (bytes : Nat) (zero : List AV)
  | sl (z : Option Nat) (x : AV) (lo hi mx : Option AV) (v : AV)
  | st (a b : List Nat)
  | push (len n bytes : Nat) (els : List (List AV))
  | ix (i : AV) (n k : Nat)
  | le (a b : Nat)
  | at (els : List (List AV)) (i : Nat) (cs : List AV)
  | calli (d : Nat) (st : List Nat) (f : FuncId) (avs : List AV) (G : Heap) (r : AV) (H : Heap)
  | any (d : Nat) (st : List Nat) (o : MO) (e : Env) (H : Heap) (v : AV) (H' : Heap)
  | loop (d : Nat) (live : List Nat) (b : MC) (π : List Nat) (s : St) (x : Ex) (s' : St)

/-- a call by values: what comes of it -/
def valC (C : Caller) (f : FuncId) (avs : List AV) : Option AV :=
  match C 0 [] f avs [] with
  | some (r, H) => if distinct r.refs then packT true 0 H r else none
  | none => none
theorem valC_den {P : Prog} {n : Nat} {f : FuncId} {avs : List AV} : valC (runF P n) f avs = den P n f avs := rfl

section
variable (P : Prog) (C : Caller)
def Con.holds : Con → Prop
  | .b t x => t = x
  | .n t x => t = x
  | .el els i cs => ∃ k, idx i els.length = some k ∧ els[k]? = some cs
  | .call f avs r => valC C f avs = some r
  | .spec f avs r => ∃ g, P.spec f = some g ∧ g avs = some r
  | .sl z x lo hi mx v => sliceSem z x lo hi mx = some v
  | .nz m => m ≠ 0
  | .cat z bytes leaf new => lens z new = true ∧ (leaf = true → dryEls new = true) ∧ roomOk new.length bytes
  | .mk l c full els li ci bytes zero => li = (l : Int) ∧ ci = (c : Int) ∧ l ≤ c ∧ c * bytes ≤ most ∧ c ≤ most ∧ full = decide (l = c) ∧ els = List.replicate l zero
  | .st x y => x = y
  | .push len m bytes els => len = els.length ∧ roomOk (len + m) bytes ∧ (len = 0 → roomOk m bytes)
  | .ix i m k => idx i m = some k
  | .le x y => x ≤ y
  | .at els i cs => els[i]? = some cs
  | .calli d τ f avs G r H => C (d + 1) (0 :: τ) f avs G = some (r, H)
  | .any d τ o e H v H' => stepOp P C d τ o e H = some (v, H')
  | .loop d live m π A x s' => ∃ L s0, P.L = L + 1 ∧ LP (bodyOf P C d m) d live π L 0 A = some (x, s0) ∧ (outP d live x s0).env = s'.env ∧ (outP d live x s0).H = s'.H
def Holds : List Con → Prop
  | [] => True
  | c :: r => c.holds P C ∧ Holds r

def keyEq : Option Nat → Option Nat → Bool
  | some a, some b => Nat.beq a b
  | none, none => true
  | _, _ => false

/-- lists of things that come with what was taken for granted -/
def optX {α β : Type} (f : α → Option (β × List Con)) : List α → Option (List β × List Con)
  | [] => some ([], [])
  | a :: r =>
    match f a with
    | none => none
    | some (b, cs) =>
      match optX f r with
      | none => none
      | some (l, ds) => some (b :: l, cs ++ ds)
def cutX (els : List (List AV)) : Nat → Nat → List (List AV)
  | 0, len => els.take len
  | off, len => (els.drop off).take len
/-- 'freeze', stamps not asked -/
def freezeX (H : Heap) : Nat → AV → Option (AV × List Con)
  | 0, _ => none
  | n + 1, x =>
    match x with
    | .slc s st z off len _ =>
      match H.get s with
      | none => none
      | some b =>
        match b.leaf with
        | true => some (.lst z (cutX b.els off len), [.st b.st st, .le (off + len) b.els.length])
        | false => match optX (optX (freezeX H n)) (cutX b.els off len) with | some (l, cs) => some (.lst z l, .st b.st st :: .le (off + len) b.els.length :: cs) | none => none
    | .ptr s st i off =>
      match H.get s with
      | none => none
      | some b =>
        match b.els[i]? with
        | none => none
        | some cs =>
          match b.leaf with
          | true => some (.imm (cs.drop off), [.st b.st st])
          | false => match optX (freezeX H n) (cs.drop off) with | some (l, ds) => some (.imm l, .st b.st st :: ds) | none => none
    | .agg cs => match optX (freezeX H n) cs with | some (l, ds) => some (.agg l, ds) | none => none
    | .tup vs => match optX (freezeX H n) vs with | some (l, ds) => some (.tup l, ds) | none => none
    | .fn f a b =>
      match optX (freezeX H n) a, optX (freezeX H n) b with
      | some (a, cs), some (b, ds) => some (.fn f a b, cs ++ ds)
      | _, _ => none
    | .junk => none
    | .own .. => none
    | .ownp .. => none
    | x => some (x, [])
/-- 'packT', stamps not asked -/
def packCX (d : Nat) (H : Heap) (x : AV) : Option (AV × List Con) :=
  match x with
  | .slc s st z 0 len full =>
    match Nat.beq s.d d, H.get s with
    | true, some b => if (b.leaf || dryEls (b.els.take len)) = true then some (.own z (b.els.take len) b.leaf, [.st b.st st, .le len b.els.length]) else none
    | _, _ => none
  | x => match packC true d H x with | some y => some (y, []) | none => none
def packAX (d : Nat) (H : Heap) (x : AV) : Option (AV × List Con) :=
  match x with
  | .agg cs => match optX (packCX d H) cs with | some (l, ds) => some (.agg l, ds) | none => none
  | x => packCX d H x
def packTX (d : Nat) (H : Heap) (x : AV) : Option (AV × List Con) :=
  match x with
  | .tup vs => match optX (packAX d H) vs with | some (l, ds) => some (.tup l, ds) | none => none
  | x => packAX d H x

def callD (d t : Nat) (st : List Nat) (f : FuncId) (args : List AV) (H : Heap) (r : AV) (q : Ora) : Option (AV × Heap × Ora × List Con) :=
  match inlOf P f, P.spec f with
  | false, none =>
    match optX (freezeX H 8) args with
    | some (avs, cs) => match thawT d t st H r with | (v, H') => some (v, H', q, .call f avs r :: cs)
    | none => none
  | _, some _ =>
    match optX (freezeX H 8) args, r.refs.isEmpty with
    | some (avs, cs), true => match thawT d t st H r with | (v, H') => some (v, H', q, .spec f avs r :: cs)
    | _, _ => none
  | _, _ => none

/-- a call in the caller's memory, as told: what it hands back, the memory that it leaves -/
def calliD (d t : Nat) (st : List Nat) (f : FuncId) (args : List AV) (H : Heap) (r : AV) (H1 : Heap) (q : Ora) : Option (AV × Heap × Ora × List Con) :=
  match inlOf P f, distinct r.refs with
  | true, true =>
    match packT false (d + 1) H1 r with
    | none => none
    | some r' =>
      match inAll (cutH H (handed H args)) r'.refs with
      | true =>
        match putBack H1 (cutH H (handed H args)) H with
        | none => none
        | some H2 => match thawT d t st H2 r' with | (v, H') => some (v, H', q, [.calli d st f args (cutH H (handed H args)) r H1])
      | false => none
  | _, _ => none

/-- the elements that a slice reads, its stamp not asked -/
def srcX (H : Heap) : AV → Option (List (List AV) × List Con)
  | .slc s st _ off len _ =>
    match H.get s with
    | some b => if off + len ≤ b.els.length then some ((b.els.drop off).take len, [.st b.st st]) else none
    | none => none
  | x => match srcEls H x with | some l => some (l, []) | none => none

/-- one operation; of a stamp it is written down that it fits -/
def runX (d : Nat) (st : List Nat) (o : MO) (e : Env) (H : Heap) : Option (AV × Heap × List Con) :=
  match o.op with
  | .load agg n a =>
    match a.ev e with
    | .ptr s st' i off =>
      match H.get s with
      | none => none
      | some b =>
        match b.els[i]? with
        | none => none
        | some cs => match takeCells agg n cs off with | some v => some (v, H, [.st b.st st']) | none => none
    | .imm cs => match takeCells agg n cs 0 with | some v => some (v, H, []) | none => none
    | _ => none
  | .store n a x =>
    match a.ev e with
    | .ptr s st' i off =>
      match H.get s with
      | none => none
      | some b =>
        match b.els[i]? with
        | none => none
        | some cs =>
          if (cellsOf (x.ev e)).length = n ∧ off + n ≤ cs.length ∧ allCell (cellsOf (x.ev e)) = true ∧ (b.leaf = true → dryL (cellsOf (x.ev e)) = true) then
            some (.junk, H.set s ⟨b.st, b.els.set i (putCells cs off (cellsOf (x.ev e))), b.z, b.leaf⟩, [.st b.st st']) else none
    | _ => none
  | .append z bytes leaf s x =>
    match s.ev e with
    | .nils =>
      match srcX H (x.ev e) with
      | some (new, cs) =>
        if lens z new = true ∧ (leaf = true → dryEls new = true) then
          if new.length = 0 then some (.slc ⟨d, o.dst.getD 0, altOf d o.dst H⟩ st z 0 0 false, H.set ⟨d, o.dst.getD 0, altOf d o.dst H⟩ ⟨st, [], z, leaf⟩, cs) else
          if roomOk new.length bytes then some (.slc ⟨d, o.dst.getD 0, altOf d o.dst H⟩ st z 0 new.length false, H.set ⟨d, o.dst.getD 0, altOf d o.dst H⟩ ⟨st, new, z, leaf⟩, cs) else none
        else none
      | none => none
    | _ => match stepOp P C d st o e H with | some (v, H') => some (v, H', []) | none => none
  | _ => match stepOp P C d st o e H with | some (v, H') => some (v, H', []) | none => none

/-- an append behind the last element of a place -/
def pushX (st : List Nat) (o : MO) (e : Env) (H : Heap) : Option (AV × Heap × List Con) :=
  match o.op with
  | .append z bytes leaf s x =>
    match s.ev e with
    | .slc s' st' _ 0 len false =>
      match srcX H (x.ev e) with
      | some (new, cs) =>
        match H.get s' with
        | none => none
        | some b =>
          if (lens z new = true ∧ (leaf = true → dryEls new = true)) ∧ new.length ≠ 0 ∧ b.z = z ∧ b.leaf = leaf then
            some (.slc s' st z 0 (len + new.length) false, H.set s' ⟨st, b.els ++ new, z, leaf⟩, .st b.st st' :: .push len new.length bytes b.els :: cs)
          else none
      | none => none
    | _ => none
  | _ => none

/-- the same, its bounds not asked -/
def srcY (H : Heap) : AV → Option (List (List AV) × List Con)
  | .slc s st _ off len _ =>
    match H.get s with
    | some b => some (cutX b.els off len, [.st b.st st, .le (off + len) b.els.length])
    | none => none
  | x => srcX H x
/-- a whole list appended to none, or to an empty literal: a new list -/
def catX (d : Nat) (st : List Nat) (o : MO) (e : Env) (H : Heap) : Option (AV × Heap × List Con) :=
  match o.op with
  | .append z bytes leaf s x =>
    match srcY H (x.ev e) with
    | some (new, cs) =>
      match s.ev e with
      | .nils => some (.slc ⟨d, o.dst.getD 0, altOf d o.dst H⟩ st z 0 new.length false, H.set ⟨d, o.dst.getD 0, altOf d o.dst H⟩ ⟨st, new, z, leaf⟩, .cat z bytes leaf new :: cs)
      | .slc s' st' _ 0 0 true =>
        match H.get s' with
        | none => none
        | some b => if b.z = z ∧ b.leaf = leaf then some (.slc ⟨d, o.dst.getD 0, altOf d o.dst H⟩ st z 0 new.length false, H.set ⟨d, o.dst.getD 0, altOf d o.dst H⟩ ⟨st, new, z, leaf⟩, .st b.st st' :: .cat z bytes leaf new :: cs) else none
      | _ => none
    | none => none
  | _ => none
/-- a list made, as told -/
def mkX (d : Nat) (st : List Nat) (o : MO) (e : Env) (H : Heap) (l c : Nat) (full : Bool) (els : List (List AV)) : Option (AV × Heap × List Con) :=
  match o.op with
  | .make z bytes zero leaf len cap =>
    match len.ev e, cap.ev e with
    | .v (.int .i64 li), .v (.int .i64 ci) => some (.slc ⟨d, o.dst.getD 0, 0⟩ st z 0 l full, H.set ⟨d, o.dst.getD 0, 0⟩ ⟨st, els, z, leaf⟩, [.mk l c full els li ci bytes zero])
    | _, _ => none
  | _ => none

/-- one operation, as told -/
def opD (d : Nat) (st : List Nat) (o : MO) (e : Env) (H : Heap) (q : Ora) : Option (AV × Heap × Ora × List Con) :=
  match q with
  | (t, c) :: q' =>
    match keyEq t o.dst with
    | true =>
      match c with
      | .b x =>
        match runX P C d st o e H with
        | some (.v (.bool b), H', cs) => some (.v (.bool x), H', q', .b b x :: cs)
        | _ => none
      | .n x =>
        match runX P C d st o e H with
        | some (.v (.int k m), H', cs) => some (.v (.int k x), H', q', .n m x :: cs)
        | _ => none
      | .el cs =>
        match o.op with
        | .iaddr z none x i =>
          match x.ev e with
          | .lst z' els => if z' = z then some (.imm cs, H, q', [.el els (i.ev e) cs]) else none
          | _ => none
        | .load agg n a =>
          match a.ev e with
          | .ptr s st' i off =>
            match H.get s with
            | none => none
            | some b => match takeCells agg n cs off with | some v => some (v, H, q', [.st b.st st', .at b.els i cs]) | none => none
          | _ => none
        | .store n a x =>
          match a.ev e with
          | .ptr s st' i off =>
            match H.get s with
            | none => none
            | some b =>
              if (cellsOf (x.ev e)).length = n ∧ off + n ≤ cs.length ∧ allCell (cellsOf (x.ev e)) = true ∧ (b.leaf = true → dryL (cellsOf (x.ev e)) = true) then
                some (.junk, H.set s ⟨b.st, b.els.set i (putCells cs off (cellsOf (x.ev e))), b.z, b.leaf⟩, q', [.st b.st st', .at b.els i cs]) else none
          | _ => none
        | _ => none
      | .ix k =>
        match o.op with
        | .iaddr z none x i =>
          match x.ev e with
          | .slc s a z' off len _ => if z' = z then some (.ptr s a (off + k) 0, H, q', [.ix (i.ev e) len k]) else none
          | _ => none
        | _ => none
      | .call r =>
        match o.op with
        | .call f xs => callD P d (o.dst.getD 0) st f (Opd.evs e xs) H r q'
        | .callv x xs =>
          match x.ev e with
          | .fn (.func f) a b => callD P d (o.dst.getD 0) st f (a ++ Opd.evs e xs ++ b) H r q'
          | _ => none
        | _ => none
      | .calli r H1 =>
        match o.op with
        | .call f xs => calliD P d (o.dst.getD 0) st f (Opd.evs e xs) H r H1 q'
        | .callv x xs =>
          match x.ev e with
          | .fn (.func f) a b => calliD P d (o.dst.getD 0) st f (a ++ Opd.evs e xs ++ b) H r H1 q'
          | _ => none
        | _ => none
      | .val v =>
        match o.op with
        | .slice z x lo hi mx => some (v, H, q', [.sl z (x.ev e) (optEv e lo) (optEv e hi) (optEv e mx) v])
        | _ => none
      | .div =>
        match o.op with
        | .bin .quo _ x y =>
          match x.ev e, y.ev e with
          | .v (.int k a), .v (.int k' b) => if k = k' then some (.int k (k.wrap (a.tdiv b)), H, q', [.nz b]) else none
          | _, _ => none
        | .bin .rem _ x y =>
          match x.ev e, y.ev e with
          | .v (.int k a), .v (.int k' b) => if k = k' then some (.int k (a.tmod b), H, q', [.nz b]) else none
          | _, _ => none
        | _ => none
      | .cat => match catX d st o e H with | some (v, H', cs) => some (v, H', q', cs) | none => none
      | .mk l c full els => match mkX d st o e H l c full els with | some (v, H', cs) => some (v, H', q', cs) | none => none
      | .push => match pushX st o e H with | some (v, H', cs) => some (v, H', q', cs) | none => none
      | .any v H' => some (v, H', q', [.any d st o (liveEnv e o.op.uses) H v H'])
      | .loop .. => none
    | false => match runX P C d st o e H with | some (v, H', cs) => some (v, H', q, cs) | none => none
  | [] => match runX P C d st o e H with | some (v, H', cs) => some (v, H', q, cs) | none => none

def opsD (d : Nat) (π : List Nat) : List MO → St → Ora → Option (St × Ora × List Con)
  | [], s, q => some (s, q, [])
  | o :: r, s, q =>
    match guardOf s.env o.guard with
    | none => none
    | some false => opsD d π r ⟨putD s.env o.dst (.v undef), s.H, s.k + 1⟩ q
    | some true =>
      match opD P C d (s.k :: π) o s.env s.H q with
      | none => none
      | some (v, H, q, cs) =>
        match opsD d π r ⟨putD s.env o.dst v, H, s.k + 1⟩ q with
        | none => none
        | some (s', q, ds) => some (s', q, cs ++ ds)

def trD (d : Nat) (π : List Nat) : List MO → St → Ora → Option (List Tr × St × Ora × List Con)
  | [], s, q => some ([], s, q, [])
  | o :: r, s, q =>
    match guardOf s.env o.guard with
    | none => none
    | some false =>
      match trD d π r ⟨putD s.env o.dst (.v undef), s.H, s.k + 1⟩ q with
      | none => none
      | some (l, s', q, ds) => some (⟨o, false, s.env, s.H, .v undef, s.H, [], []⟩ :: l, s', q, ds)
    | some true =>
      match footR P d o s.env s.H with
      | none => none
      | some R =>
        match opD P C d (s.k :: π) o s.env s.H q with
        | none => none
        | some (v, H, q, cs) =>
          match trD d π r ⟨putD s.env o.dst v, H, s.k + 1⟩ q with
          | none => none
          | some (l, s', q, ds) => some (⟨o, true, s.env, s.H, v, H, R, footW P ⟨d, o.dst.getD 0, 0⟩ o s.env s.H v⟩ :: l, s', q, cs ++ ds)

def loopD (body : List Nat → St → Ora → Option (Ex × St × Ora × List Con)) (d : Nat) (live : List Nat) (π : List Nat) : Nat → Nat → St → Ora → Option (Ex × St × Ora × List Con)
  | 0, _, _, _ => none
  | n + 1, j, s, q =>
    match body (j :: π) (prune d live s) q with
    | some (.nrm, s, q, cs) =>
      match loopD body d live π n (j + 1) s q with
      | some (x, s, q, ds) => some (x, s, q, cs ++ ds)
      | none => none
    | r => r

def codeD (d : Nat) : MC → List Nat → St → Ora → Option (Ex × St × Ora × List Con)
  | .skip, _, s, q => some (.nrm, s, q, [])
  | .ops l false, π, s, q => match opsD P C d π l s q with | some (s, q, cs) => some (.nrm, s, q, cs) | none => none
  | .ops l true, π, s, q => match trD P C d π l s q with | some (tr, s, q, cs) => (match indep 0 tr with | true => some (.nrm, s, q, cs) | false => none) | none => none
  | .seq a b, π, s, q =>
    match codeD d a π s q with
    | some (.nrm, s, q, cs) =>
      match codeD d b π s q with
      | some (x, s, q, ds) => some (x, s, q, cs ++ ds)
      | none => none
    | r => r
  | .cond c a b, π, s, q =>
    match c.ev s.env with
    | .v (.bool true) => codeD d a π s q
    | .v (.bool false) => codeD d b π s q
    | _ => none
  | .block id b, π, s, q =>
    match codeD d b π s q with
    | some (.exit i, s, q, cs) => if i = id then some (.nrm, s, q, cs) else some (.exit i, s, q, cs)
    | r => r
  | .loop live vn b, π, s, q =>
    match q with
    | (_, .loop x s') :: q => some (x, ⟨s'.env, s'.H, s.k + 1⟩, q, [.loop d live b (s.k :: π) (prune d live (coer d (s.k :: π) vn (prune d live s))) x s'])
    | q =>
      match loopD (codeD d b) d live (s.k :: π) P.L 0 (coer d (s.k :: π) vn (prune d live s)) q with
      | some (x, s', q, cs) => some (x, ⟨(outP d live x s').env, (outP d live x s').H, s.k + 1⟩, q, cs)
      | none => none
  | .exit i, _, s, q => some (.exit i, s, q, [])
  | .ret, _, s, q => some (.ret, s, q, [])

theorem holds_app {a b : List Con} : Holds P C (a ++ b) ↔ Holds P C a ∧ Holds P C b := by
  induction a with
  | nil => simp [Holds]
  | cons c r ih => simp [Holds, ih, and_assoc]

variable {P C}
theorem row_of {H : Heap} {s : Site} {b : Blk} {st : List Nat} (h : H.get s = some b) (hs : b.st = st) : H.row s st = some b := by
  unfold Heap.row; simp only [h, if_pos hs]
theorem optX_sound {α β : Type} {f : α → Option (β × List Con)} {g : α → Option β} (hf : ∀ a b cs, f a = some (b, cs) → Holds P C cs → g a = some b) : ∀ {l : List α} {r : List β} {cs : List Con}, optX f l = some (r, cs) → Holds P C cs → optList g l = some r
  | [], r, cs, h, _ => by simp only [optX] at h; cases h; rfl
  | a :: l, r, cs, h, hc => by
    simp only [optX] at h
    split at h <;> first | (cases h; done) | skip
    rename_i b cs1 h1
    split at h <;> first | (cases h; done) | skip
    rename_i l1 ds h2
    cases h
    rw [holds_app] at hc
    simp only [optList, hf _ _ _ h1 hc.1, optX_sound hf h2 hc.2]
theorem cutX_eq (els : List (List AV)) (off len : Nat) : cutX els off len = (els.drop off).take len := by
  cases off <;> rfl
theorem freezeX_sound {H : Heap} : ∀ (n : Nat) {x y : AV} {cs : List Con}, freezeX H n x = some (y, cs) → Holds P C cs → freeze H n x = some y
  | 0, x, y, cs, h, _ => by simp only [freezeX] at h; cases h
  | n + 1, x, y, cs, h, hc => by
    have ih : ∀ a b cs, freezeX H n a = some (b, cs) → Holds P C cs → freeze H n a = some b := fun a b cs h hc => freezeX_sound n h hc
    cases x <;> simp only [freezeX] at h <;> first | (cases h; done) | (cases h; rfl; done) | skip
    case slc s st z off len full =>
      split at h <;> first | (cases h; done) | skip
      rename_i b hb
      split at h
      · rename_i hl
        cases h
        obtain ⟨h1, h2, _⟩ := hc
        have h1 : _ = _ := h1
        have h2 : _ ≤ _ := h2
        simp only [freeze, row_of hb h1, if_pos h2, hl, if_true, cutX_eq]
      · rename_i hl
        split at h <;> first | (cases h; done) | skip
        rename_i l ds hx
        cases h
        obtain ⟨h1, h2, h3⟩ := hc
        have h1 : _ = _ := h1
        have h2 : _ ≤ _ := h2
        have := optX_sound (g := optList (freeze H n)) (fun a b cs h hc => optX_sound ih h hc) hx h3
        rw [cutX_eq] at this
        simp only [freeze, row_of hb h1, if_pos h2, hl, Bool.false_eq_true, if_false, this, Option.map_some]
    case ptr s st i off =>
      split at h <;> first | (cases h; done) | skip
      rename_i b hb
      split at h <;> first | (cases h; done) | skip
      rename_i cs0 hi
      split at h
      · rename_i hl
        cases h
        obtain ⟨h1, _⟩ := hc
        have h1 : _ = _ := h1
        simp only [freeze, row_of hb h1, hi, hl, if_true]
      · rename_i hl
        split at h <;> first | (cases h; done) | skip
        rename_i l ds hx
        cases h
        obtain ⟨h1, h3⟩ := hc
        have h1 : _ = _ := h1
        simp only [freeze, row_of hb h1, hi, hl, Bool.false_eq_true, if_false, optX_sound ih hx h3, Option.map_some]
    case agg cs0 =>
      split at h <;> first | (cases h; done) | skip
      rename_i hx
      cases h
      simp only [freeze, optX_sound ih hx hc, Option.map_some]
    case tup cs0 =>
      split at h <;> first | (cases h; done) | skip
      rename_i hx
      cases h
      simp only [freeze, optX_sound ih hx hc, Option.map_some]
    case fn f a b =>
      split at h <;> first | (cases h; done) | skip
      rename_i hx hy
      cases h
      rw [holds_app] at hc
      simp only [freeze, optX_sound ih hx hc.1, optX_sound ih hy hc.2]
theorem packCX_sound {d : Nat} {H : Heap} {x y : AV} {cs : List Con} (h : packCX d H x = some (y, cs)) (hc : Holds P C cs) : packC true d H x = some y := by
  unfold packCX at h
  split at h
  · split at h <;> first | (cases h; done) | skip
    rename_i b hd hb
    split at h <;> first | (cases h; done) | skip
    rename_i hl
    cases h
    obtain ⟨h1, h2, _⟩ := hc
    have h1 : _ = _ := h1
    have h2 : _ ≤ _ := h2
    simp only [packC, if_pos (Nat.eq_of_beq_eq_true hd), row_of hb h1]
    rw [if_pos ⟨trivial, h2, hl⟩]
  · split at h <;> first | (cases h; done) | skip
    rename_i h1
    cases h; exact h1
theorem packAX_sound {d : Nat} {H : Heap} {x y : AV} {cs : List Con} (h : packAX d H x = some (y, cs)) (hc : Holds P C cs) : packA true d H x = some y := by
  unfold packAX at h
  split at h
  · split at h <;> first | (cases h; done) | skip
    rename_i hx
    cases h
    simp only [packA, optX_sound (fun a b cs h hc => packCX_sound h hc) hx hc, Option.map_some]
  · rename_i hn
    have := packCX_sound h hc
    cases x <;> first | exact this | exact absurd rfl (hn _)
theorem packTX_sound {d : Nat} {H : Heap} {x y : AV} {cs : List Con} (h : packTX d H x = some (y, cs)) (hc : Holds P C cs) : packT true d H x = some y := by
  unfold packTX at h
  split at h
  · split at h <;> first | (cases h; done) | skip
    rename_i hx
    cases h
    simp only [packT, optX_sound (fun a b cs h hc => packAX_sound h hc) hx hc, Option.map_some]
  · rename_i hn
    have := packAX_sound h hc
    cases x <;> first | exact this | exact absurd rfl (hn _)

theorem get_live (e : Env) : ∀ (l : List Nat) (t : Nat), t ∈ l → (liveEnv e l).get t = e.get t
  | [], t, h => by simp at h
  | k :: r, t, h => by
    simp only [liveEnv, Env.get]
    by_cases hk : k = t
    · subst hk; rw [if_pos rfl]
    · rw [if_neg hk]
      exact get_live e r t (by simpa [Ne.symm hk] using h)
theorem stepOp_env {d : Nat} {st : List Nat} {o : MO} {e e2 : Env} {H : Heap} (he : ∀ t ∈ o.op.uses, e2.get t = e.get t) : stepOp P C d st o e2 H = stepOp P C d st o e H := by
  obtain ⟨dst, m, gd, pre⟩ := o
  simp only at he
  unfold stepOp
  cases m
  case call f xs => simp only [MOp.uses] at he; simp only [evs_same (xs := xs) he]
  case callv x xs =>
    simp only [MOp.uses, List.mem_append] at he
    simp only [ev_same (x := x) fun t ht => he t (.inl ht), evs_same (xs := xs) fun t ht => he t (.inr ht)]
  all_goals exact opSem_env he

theorem callD_sound {d t : Nat} {st : List Nat} {f : FuncId} {args : List AV} {H H' : Heap} {r v : AV} {q q' : Ora} {cs : List Con} (h : callD P d t st f args H r q = some (v, H', q', cs)) (hc : Holds P C cs) :
    callIn P C (inlOf P f) d t st f args H = some (v, H') := by
  unfold callD at h
  split at h <;> first | (cases h; done) | skip
  rotate_left
  · rename_i g hs
    split at h <;> first | (cases h; done) | skip
    rename_i avs cs0 ha0 hre
    cases hth : thawT d t st H r with
    | mk y H2 =>
    rw [hth] at h
    cases h
    obtain ⟨g', hg1, hg2⟩ : ∃ g, P.spec f = some g ∧ g avs = some r := hc.1
    have ha := optX_sound (fun a b cs h hc => freezeX_sound 8 h hc) ha0 hc.2
    unfold callIn
    simp only [hg1, ha, hg2, hre, if_true, hth]
  rename_i hi hs
  split at h <;> first | (cases h; done) | skip
  rename_i avs cs0 ha0
  cases hth : thawT d t st H r with
  | mk y H2 =>
  rw [hth] at h
  cases h
  have hv : valC C f avs = some r := hc.1
  have ha := optX_sound (fun a b cs h hc => freezeX_sound 8 h hc) ha0 hc.2
  unfold valC at hv
  unfold callIn
  simp only [hi, hs, ha, Bool.false_eq_true, if_false]
  split at hv <;> first | (cases hv; done) | skip
  rename_i r0 H0 hcall
  split at hv <;> first | (cases hv; done) | skip
  rename_i hd
  simp only [hcall, hd, if_true, hv, hth]

theorem calliD_sound {d t : Nat} {st : List Nat} {f : FuncId} {args : List AV} {H H' H1 : Heap} {r v : AV} {q q' : Ora} {cs : List Con} (h : calliD P d t st f args H r H1 q = some (v, H', q', cs)) (hc : Holds P C cs) :
    callIn P C (inlOf P f) d t st f args H = some (v, H') := by
  unfold calliD at h
  split at h <;> first | (cases h; done) | skip
  rename_i hi hd
  split at h <;> first | (cases h; done) | skip
  rename_i r' hp
  split at h <;> first | (cases h; done) | skip
  rename_i hin
  split at h <;> first | (cases h; done) | skip
  rename_i H2 hput
  cases hth : thawT d t st H2 r' with
  | mk y H3 =>
  rw [hth] at h
  cases h
  have hv : C (d + 1) (0 :: st) f args (cutH H (handed H args)) = some (r, H1) := hc.1
  unfold callIn
  simp only [hi, inlOf_spec hi, if_true, hv, hd, hp, hin, hput, hth]

theorem srcX_sound {H : Heap} {x : AV} {l : List (List AV)} {cs : List Con} (h : srcX H x = some (l, cs)) (hc : Holds P C cs) : srcEls H x = some l := by
  unfold srcX at h
  split at h
  · split at h <;> first | (cases h; done) | skip
    rename_i b hb
    split at h <;> first | (cases h; done) | skip
    rename_i hl
    cases h
    have : _ = _ := hc.1
    simp only [srcEls, row_of hb this, if_pos hl]
  · split at h <;> first | (cases h; done) | skip
    rename_i h1
    cases h; exact h1

theorem runX_sound {d : Nat} {st : List Nat} {o : MO} {e : Env} {H H' : Heap} {v : AV} {cs : List Con} (h : runX P C d st o e H = some (v, H', cs)) (hc : Holds P C cs) : stepOp P C d st o e H = some (v, H') := by
  have plain : (match stepOp P C d st o e H with | some (v, H') => some (v, H', ([] : List Con)) | none => none) = some (v, H', cs) → stepOp P C d st o e H = some (v, H') := by
    intro h
    split at h <;> first | (cases h; done) | skip
    rename_i h1
    cases h; exact h1
  unfold runX at h
  split at h
  · rename_i agg n a ho
    unfold stepOp
    simp only [ho, opSem]
    split at h <;> first | (cases h; done) | skip
    · rename_i s st' i off ha
      split at h <;> first | (cases h; done) | skip
      rename_i b hb
      split at h <;> first | (cases h; done) | skip
      rename_i cs0 hi
      split at h <;> first | (cases h; done) | skip
      rename_i v0 hv
      cases h
      have : _ = _ := hc.1
      simp only [ha, row_of hb this, hi, hv, Option.map_some]
    · rename_i cs0 ha
      split at h <;> first | (cases h; done) | skip
      rename_i v0 hv
      cases h
      simp only [ha, hv, Option.map_some]
  · rename_i n a x ho
    unfold stepOp
    simp only [ho, opSem]
    split at h <;> first | (cases h; done) | skip
    rename_i s st' i off ha
    split at h <;> first | (cases h; done) | skip
    rename_i b hb
    split at h <;> first | (cases h; done) | skip
    rename_i cs0 hi
    split at h <;> first | (cases h; done) | skip
    rename_i hcond
    cases h
    have : _ = _ := hc.1
    simp only [ha, row_of hb this, hi, if_pos hcond]
  · rename_i z bytes leaf s x ho
    split at h
    · rename_i ha
      split at h <;> first | (cases h; done) | skip
      rename_i new cs0 hx
      split at h <;> first | (cases h; done) | skip
      rename_i hl
      unfold stepOp
      simp only [ho, opSem, ha]
      split at h
      · rename_i h0
        cases h
        rw [srcX_sound hx hc]
        simp only [if_pos hl, if_pos h0]
      · rename_i h0
        split at h <;> first | (cases h; done) | skip
        rename_i hm
        cases h
        rw [srcX_sound hx hc]
        simp only [if_pos hl, if_neg h0, if_pos hm]
    · exact plain h
  · exact plain h

theorem pushX_sound {d : Nat} {st : List Nat} {o : MO} {e : Env} {H H' : Heap} {v : AV} {cs : List Con} (h : pushX st o e H = some (v, H', cs)) (hc : Holds P C cs) : stepOp P C d st o e H = some (v, H') := by
  unfold pushX at h
  split at h <;> first | (cases h; done) | skip
  rename_i z bytes leaf s x ho
  split at h <;> first | (cases h; done) | skip
  rename_i s' st' z' len ha
  split at h <;> first | (cases h; done) | skip
  rename_i new cs0 hx
  split at h <;> first | (cases h; done) | skip
  rename_i b hb
  split at h <;> first | (cases h; done) | skip
  rename_i hcond
  cases h
  obtain ⟨h1, ⟨h2, h3, h5⟩, h4⟩ := hc
  have h1 : _ = _ := h1
  obtain ⟨hl, hn, hz, hle⟩ := hcond
  unfold stepOp
  simp only [ho, opSem, ha]
  rw [srcX_sound hx h4]
  simp only [if_pos hl, if_neg hn, row_of hb h1, Bool.false_eq_true, if_false]
  rw [if_pos ⟨hz, hle, ⟨h3, h5⟩, by omega⟩, if_pos ⟨trivial, h2⟩]

theorem srcY_sound {H : Heap} {x : AV} {l : List (List AV)} {cs : List Con} (h : srcY H x = some (l, cs)) (hc : Holds P C cs) : srcEls H x = some l := by
  unfold srcY at h
  split at h
  · split at h <;> first | (cases h; done) | skip
    rename_i b hb
    cases h
    obtain ⟨h1, h2, _⟩ := hc
    have h1 : _ = _ := h1
    have h2 : _ ≤ _ := h2
    simp only [srcEls, row_of hb h1, if_pos h2, cutX_eq]
  · exact srcX_sound h hc
theorem catX_sound {d : Nat} {st : List Nat} {o : MO} {e : Env} {H H' : Heap} {v : AV} {cs : List Con} (h : catX d st o e H = some (v, H', cs)) (hc : Holds P C cs) : stepOp P C d st o e H = some (v, H') := by
  unfold catX at h
  split at h <;> first | (cases h; done) | skip
  rename_i z bytes leaf s x ho
  split at h <;> first | (cases h; done) | skip
  rename_i new cs0 hx
  have nil_of : new.length = 0 → new = [] := List.eq_nil_of_length_eq_zero
  split at h <;> first | (cases h; done) | skip
  · rename_i ha
    cases h
    obtain ⟨⟨h1, h2, h3⟩, h4⟩ := hc
    unfold stepOp
    simp only [ho, opSem, ha]
    rw [srcY_sound hx h4]
    simp only [if_pos (show lens z new = true ∧ (leaf = true → dryEls new = true) from ⟨h1, h2⟩)]
    by_cases h0 : new.length = 0
    · rw [if_pos h0, nil_of h0]; rfl
    · rw [if_neg h0, if_pos h3]
  · rename_i s' st' z' ha
    split at h <;> first | (cases h; done) | skip
    rename_i b hb
    split at h <;> first | (cases h; done) | skip
    rename_i hz
    cases h
    obtain ⟨h5, ⟨h1, h2, h3⟩, h4⟩ := hc
    have h5 : _ = _ := h5
    unfold stepOp
    simp only [ho, opSem, ha]
    rw [srcY_sound hx h4]
    simp only [if_pos (show lens z new = true ∧ (leaf = true → dryEls new = true) from ⟨h1, h2⟩), row_of hb h5]
    by_cases h0 : new.length = 0
    · rw [if_pos h0, nil_of h0]; rfl
    · rw [if_neg h0, if_pos ⟨hz.1, hz.2, ⟨by rw [Nat.zero_add]; exact h3, fun _ => h3⟩, by omega⟩]
      simp
theorem mkX_sound {d : Nat} {st : List Nat} {o : MO} {e : Env} {H H' : Heap} {v : AV} {cs : List Con} {l c : Nat} {full : Bool} {els : List (List AV)} (h : mkX d st o e H l c full els = some (v, H', cs)) (hc : Holds P C cs) : stepOp P C d st o e H = some (v, H') := by
  unfold mkX at h
  split at h <;> first | (cases h; done) | skip
  rename_i z bytes zero leaf len cap ho
  split at h <;> first | (cases h; done) | skip
  rename_i li ci hl hcp
  cases h
  obtain ⟨⟨rfl, rfl, h1, h2, h3, rfl, rfl⟩, _⟩ := hc
  unfold stepOp
  simp only [ho, opSem, hl, hcp]
  rw [if_pos ⟨by omega, by omega, by simpa using h2, by simpa using h3⟩]
  simp
  omega

theorem opD_sound {d : Nat} {st : List Nat} {o : MO} {e : Env} {H H' : Heap} {q q' : Ora} {v : AV} {cs : List Con} (h : opD P C d st o e H q = some (v, H', q', cs)) (hc : Holds P C cs) : stepOp P C d st o e H = some (v, H') := by
  unfold opD at h
  split at h
  · split at h
    · split at h
      · split at h <;> first | (cases h; done) | skip
        rename_i h1
        cases h
        have : _ = _ := hc.1
        rw [runX_sound h1 hc.2, this]
      · split at h <;> first | (cases h; done) | skip
        rename_i h1
        cases h
        have : _ = _ := hc.1
        rw [runX_sound h1 hc.2, this]
      · split at h <;> first | (cases h; done) | skip
        · rename_i z x i ho
          split at h <;> first | (cases h; done) | skip
          rename_i z' els hx
          split at h <;> first | (cases h; done) | skip
          rename_i hz
          cases h
          obtain ⟨k, h1, h2⟩ := hc.1
          unfold stepOp
          simp only [ho, opSem, hx, Option.isSome_none, Bool.false_eq_true, if_false, h1, h2, if_pos hz]
        · rename_i agg n a ho
          split at h <;> first | (cases h; done) | skip
          rename_i s st' i off ha
          split at h <;> first | (cases h; done) | skip
          rename_i b hb
          split at h <;> first | (cases h; done) | skip
          rename_i v0 hv
          cases h
          have h1 : _ = _ := hc.1
          have h2 : _ = _ := hc.2.1
          unfold stepOp
          simp only [ho, opSem, ha, row_of hb h1, h2, hv, Option.map_some]
        · rename_i n a x ho
          split at h <;> first | (cases h; done) | skip
          rename_i s st' i off ha
          split at h <;> first | (cases h; done) | skip
          rename_i b hb
          split at h <;> first | (cases h; done) | skip
          rename_i hcond
          cases h
          have h1 : _ = _ := hc.1
          have h2 : _ = _ := hc.2.1
          unfold stepOp
          simp only [ho, opSem, ha, row_of hb h1, h2, if_pos hcond]
      · split at h <;> first | (cases h; done) | skip
        rename_i z x i ho
        split at h <;> first | (cases h; done) | skip
        rename_i s a z' off len full hx
        split at h <;> first | (cases h; done) | skip
        rename_i hz
        cases h
        have h1 : idx _ _ = some _ := hc.1
        unfold stepOp
        simp only [ho, opSem, hx, Option.isSome_none, Bool.false_eq_true, if_false, h1, if_pos hz, Option.map_some]
      · split at h <;> first | (cases h; done) | skip
        · rename_i ho
          unfold stepOp
          simp only [ho]
          exact callD_sound h hc
        · rename_i ho
          split at h <;> first | (cases h; done) | skip
          rename_i hx
          unfold stepOp
          simp only [ho, hx]
          exact callD_sound h hc
      · split at h <;> first | (cases h; done) | skip
        · rename_i ho
          unfold stepOp
          simp only [ho]
          exact calliD_sound h hc
        · rename_i ho
          split at h <;> first | (cases h; done) | skip
          rename_i hx
          unfold stepOp
          simp only [ho, hx]
          exact calliD_sound h hc
      · split at h <;> first | (cases h; done) | skip
        rename_i ho
        cases h
        have : sliceSem _ _ _ _ _ = some _ := hc.1
        unfold stepOp
        simp only [ho, opSem, this, Option.map_some]
      · split at h <;> first | (cases h; done) | skip
        · rename_i ho
          split at h <;> first | (cases h; done) | skip
          rename_i hx hy
          split at h <;> first | (cases h; done) | skip
          rename_i hk
          cases h
          subst hk
          have h0 : ¬ _ = (0 : Int) := hc.1
          unfold stepOp
          simp only [ho, opSem, hx, hy, binSem, if_true, intBin, if_neg h0, Option.map_some]
        · rename_i ho
          split at h <;> first | (cases h; done) | skip
          rename_i hx hy
          split at h <;> first | (cases h; done) | skip
          rename_i hk
          cases h
          subst hk
          have h0 : ¬ _ = (0 : Int) := hc.1
          unfold stepOp
          simp only [ho, opSem, hx, hy, binSem, if_true, intBin, if_neg h0, Option.map_some]
      · split at h <;> first | (cases h; done) | skip
        rename_i h1
        cases h
        exact catX_sound h1 hc
      · split at h <;> first | (cases h; done) | skip
        rename_i h1
        cases h
        exact mkX_sound h1 hc
      · split at h <;> first | (cases h; done) | skip
        rename_i h1
        cases h
        exact pushX_sound h1 hc
      · cases h
        have : _ = _ := hc.1
        rw [← this]
        exact (stepOp_env fun t ht => get_live e _ t ht).symm
      · cases h
    · split at h <;> first | (cases h; done) | skip
      rename_i h1
      cases h; exact runX_sound h1 hc
  · split at h <;> first | (cases h; done) | skip
    rename_i h1
    cases h; exact runX_sound h1 hc

theorem opsD_sound {d : Nat} {π : List Nat} : ∀ {l : List MO} {s s' : St} {q q' : Ora} {cs : List Con}, opsD P C d π l s q = some (s', q', cs) → Holds P C cs → evOps P C d π l s = some s'
  | [], s, s', q, q', cs, h, _ => by simp only [opsD] at h; cases h; rfl
  | o :: r, s, s', q, q', cs, h, hc => by
    simp only [opsD] at h
    simp only [evOps]
    cases hg : guardOf s.env o.guard with
    | none => rw [hg] at h; cases h
    | some b =>
      rw [hg] at h
      cases b with
      | false => exact opsD_sound h hc
      | true =>
        simp only at h ⊢
        split at h
        · cases h
        · rename_i v H q1 cs1 h1
          split at h
          · cases h
          · rename_i s1 q2 ds h2
            cases h
            rw [holds_app] at hc
            rw [opD_sound h1 hc.1]
            exact opsD_sound h2 hc.2

theorem trD_sound {d : Nat} {π : List Nat} : ∀ {l : List MO} {s s' : St} {q q' : Ora} {cs : List Con} {tr : List Tr}, trD P C d π l s q = some (tr, s', q', cs) → Holds P C cs → evTrace P C d π l s = some (tr, s')
  | [], s, s', q, q', cs, tr, h, _ => by simp only [trD] at h; cases h; rfl
  | o :: r, s, s', q, q', cs, tr, h, hc => by
    simp only [trD] at h
    simp only [evTrace]
    cases hg : guardOf s.env o.guard with
    | none => rw [hg] at h; cases h
    | some b =>
      rw [hg] at h
      cases b with
      | false =>
        simp only at h ⊢
        split at h
        · cases h
        · rename_i l1 s1 q1 ds h1
          cases h
          rw [trD_sound h1 hc]
      | true =>
        simp only at h ⊢
        split at h
        · cases h
        · rename_i R hR
          split at h
          · cases h
          · rename_i v H q1 cs1 h1
            split at h
            · cases h
            · rename_i l1 s1 q2 ds h2
              cases h
              rw [holds_app] at hc
              simp only [hR, opD_sound h1 hc.1, trD_sound h2 hc.2]

theorem loopD_sound {d : Nat} {live : List Nat} {π : List Nat} {body : List Nat → St → Option (Ex × St)} {bodyD : List Nat → St → Ora → Option (Ex × St × Ora × List Con)}
    (hb : ∀ π s q x s' q' cs, bodyD π s q = some (x, s', q', cs) → Holds P C cs → body π s = some (x, s')) : ∀ (n j : Nat) (s : St) (q : Ora) {x : Ex} {s' : St} {q' : Ora} {cs : List Con},
    loopD bodyD d live π n j s q = some (x, s', q', cs) → Holds P C cs → evLoop body d live π n j s = some (x, s')
  | 0, j, s, q, x, s', q', cs, h, _ => by simp only [loopD] at h; cases h
  | n + 1, j, s, q, x, s', q', cs, h, hc => by
    simp only [loopD] at h
    simp only [evLoop]
    split at h
    · rename_i s1 q1 cs1 h1
      split at h
      · rename_i x2 s2 q2 ds h2
        cases h
        rw [holds_app] at hc
        rw [hb _ _ _ _ _ _ _ h1 hc.1]
        exact loopD_sound hb n (j + 1) s1 q1 h2 hc.2
      · cases h
    · rename_i hn
      have h1 := hb _ _ _ _ _ _ _ h hc
      rw [h1]
      cases x with
      | nrm => exact absurd h (hn _ _ _)
      | exit i => rfl
      | ret => rfl

theorem codeD_sound {d : Nat} : ∀ {m : MC} {π : List Nat} {s s' : St} {q q' : Ora} {cs : List Con} {x : Ex}, codeD P C d m π s q = some (x, s', q', cs) → Holds P C cs → evC P C d m π s = some (x, s')
  | .skip, π, s, s', q, q', cs, x, h, _ => by simp only [codeD] at h; cases h; rfl
  | .ops l false, π, s, s', q, q', cs, x, h, hc => by
    simp only [codeD] at h
    split at h
    · rename_i h1; cases h; simp only [evC, opsD_sound h1 hc, Option.map_some]
    · cases h
  | .ops l true, π, s, s', q, q', cs, x, h, hc => by
    simp only [codeD] at h
    split at h
    · rename_i h1
      split at h
      · rename_i hi; cases h; simp only [evC, evDraw, trD_sound h1 hc, hi, if_true, Option.map_some]
      · cases h
    · cases h
  | .seq a b, π, s, s', q, q', cs, x, h, hc => by
    simp only [codeD] at h
    simp only [evC]
    split at h
    · rename_i s1 q1 cs1 h1
      split at h
      · rename_i h2
        cases h
        rw [holds_app] at hc
        rw [codeD_sound h1 hc.1]
        exact codeD_sound h2 hc.2
      · cases h
    · rename_i hn
      have h1 := codeD_sound h hc
      rw [h1]
      cases x with
      | nrm => exact absurd h (hn _ _ _)
      | exit i => rfl
      | ret => rfl
  | .cond c a b, π, s, s', q, q', cs, x, h, hc => by
    simp only [codeD] at h
    simp only [evC]
    split at h
    · rename_i hv; rw [hv]; exact codeD_sound h hc
    · rename_i hv; rw [hv]; exact codeD_sound h hc
    · cases h
  | .block id b, π, s, s', q, q', cs, x, h, hc => by
    simp only [codeD] at h
    simp only [evC]
    split at h
    · rename_i i s1 q1 cs1 h1
      split at h
      · rename_i hi; cases h; rw [codeD_sound h1 hc]; simp only [if_pos hi]
      · rename_i hi; cases h; rw [codeD_sound h1 hc]; simp only [if_neg hi]
    · rename_i hn
      have h1 := codeD_sound h hc
      rw [h1]
      cases x with
      | nrm => rfl
      | exit i => exact absurd h (hn _ _ _ _)
      | ret => rfl
  | .loop live vn b, π, s, s', q, q', cs, x, h, hc => by
    simp only [codeD] at h
    simp only [evC]
    split at h
    · cases h
      obtain ⟨L, s0, h1, h2, h3, h4⟩ := hc.1
      rw [h1, evLoop_LP]
      have h2 : LP (evC P C d b) d live (s.k :: π) L 0 (prune d live (coer d (s.k :: π) vn (prune d live s))) = _ := h2
      rw [h2]
      simp only [h3, h4]
    · split at h
      · rename_i h1
        cases h
        rw [loopD_sound (fun _ _ _ _ _ _ _ h hc => codeD_sound h hc) _ _ _ _ h1 hc]
      · cases h
  | .exit i, π, s, s', q, q', cs, x, h, _ => by simp only [codeD] at h; cases h; rfl
  | .ret, π, s, s', q, q', cs, x, h, _ => by simp only [codeD] at h; cases h; rfl

/-- a function's run, as told -/
theorem runF_codeD {n d : Nat} {π : List Nat} {f : FuncId} {args : List AV} {H : Heap} {fm : FnM} {q q' : Ora} {x : Ex} {s : St} {cs : List Con} {r : AV} (hf : P.fn f = some fm)
    (h : codeD P (runF P n) d fm.code π ⟨argEnv 0 args, H, 0⟩ q = some (x, s, q', cs)) (hx : x = .nrm ∨ x = .ret) (hr : resOf s fm.res = some r) (hc : Holds P (runF P n) cs) : runF P (n + 1) d π f args H = some (r, s.H) := by
  rw [runF_fn hf, codeD_sound h hc]
  rcases hx with rfl | rfl <;> simp only [runOut, hr]

/-- a whole call by values, as told -/
def denD (P : Prog) (n : Nat) (f : FuncId) (args : List AV) (q : Ora) : Option (AV × List Con) :=
  match P.fn f with
  | none => none
  | some fm =>
    match codeD P (runF P n) 0 fm.code [] ⟨argEnv 0 args, [], 0⟩ q with
    | some (x, s, _, cs) =>
      match x with
      | .exit _ => none
      | _ =>
        match resOf s fm.res with
        | none => none
        | some r => match distinct r.refs with | true => (match packTX 0 s.H r with | some (r, ds) => some (r, cs ++ ds) | none => none) | false => none
    | none => none
theorem denD_sound {n : Nat} {f : FuncId} {args : List AV} {q : Ora} {r : AV} {cs : List Con} (h : denD P n f args q = some (r, cs)) (hc : Holds P (runF P n) cs) : den P (n + 1) f args = some r := by
  unfold denD at h
  split at h
  · cases h
  · rename_i fm hf
    split at h
    · rename_i x s q' cs' h1
      have fin : ∀ (hx : x = .nrm ∨ x = .ret), (match resOf s fm.res with
          | none => none
          | some r => match distinct r.refs with | true => (match packTX 0 s.H r with | some (r, ds) => some (r, cs' ++ ds) | none => none) | false => none) = some (r, cs) → den P (n + 1) f args = some r := by
        intro hx h
        split at h
        · cases h
        · rename_i r0 h2
          split at h
          · rename_i hd
            split at h
            · rename_i r1 ds h3
              cases h
              rw [holds_app] at hc
              have h3 := packTX_sound h3 hc.2
              have h4 := codeD_sound h1 hc.1
              unfold den
              simp only [runF, hf, h4]
              rcases hx with rfl | rfl <;> simp only [h2, Option.map_some, hd, if_true, h3]
            · cases h
          · cases h
      cases x with
      | exit i => cases h
      | nrm => exact fin (.inl rfl) h
      | ret => exact fin (.inr rfl) h
    · cases h

/-- one round, as told: pruned at its end -/
def nxtD (P : Prog) (C : Caller) (d : Nat) (live : List Nat) (b : MC) (π : List Nat) (s : St) (q : Ora) : Option (St × List Con) :=
  match codeD P C d b π s q with
  | some (.nrm, s, _, cs) => some (prune d live s, cs)
  | _ => none
theorem nxtD_sound {d : Nat} {live : List Nat} {b : MC} {π : List Nat} {s s' : St} {q : Ora} {cs : List Con} (h : nxtD P C d live b π s q = some (s', cs)) (hc : Holds P C cs) : nxt d live (bodyOf P C d b π s) = some s' := by
  unfold nxtD at h
  split at h
  · rename_i h1
    cases h
    unfold nxt bodyOf
    rw [codeD_sound h1 hc]
  · cases h
end
end Go.Proofs.Ytnphdnokedhhkaa.Fw
namespace Go.Proofs.Ytnphdnokedhhkaa.Fw
open Go Go.RowKit
section
variable {P : Prog} {C : Caller}
/-- a call in the caller's memory, as told -/
def runD (P : Prog) (n d : Nat) (π : List Nat) (f : FuncId) (args : List AV) (H : Heap) (q : Ora) : Option ((AV × Heap) × List Con) :=
  match P.fn f with
  | none => none
  | some fm =>
    match codeD P (runF P n) d fm.code π ⟨argEnv 0 args, H, 0⟩ q with
    | some (x, s, _, cs) =>
      match x with
      | .exit _ => none
      | _ => match resOf s fm.res with | none => none | some r => some ((r, s.H), cs)
    | none => none
theorem runD_sound {n d : Nat} {π : List Nat} {f : FuncId} {args : List AV} {H : Heap} {q : Ora} {r : AV × Heap} {cs : List Con} (h : runD P n d π f args H q = some (r, cs)) (hc : Holds P (runF P n) cs) : runF P (n + 1) d π f args H = some r := by
  unfold runD at h
  split at h
  · cases h
  · rename_i fm hf
    split at h
    · rename_i x s q' cs' h1
      cases x with
      | exit i => cases h
      | nrm =>
        simp only at h
        cases hr : resOf s fm.res with
        | none => rw [hr] at h; cases h
        | some r0 => rw [hr] at h; cases h; exact runF_codeD hf h1 (.inl rfl) hr hc
      | ret =>
        simp only at h
        cases hr : resOf s fm.res with
        | none => rw [hr] at h; cases h
        | some r0 => rw [hr] at h; cases h; exact runF_codeD hf h1 (.inr rfl) hr hc
    · cases h
/-- a round's outcome: pruned, if it goes on -/
def rnd (d : Nat) (live : List Nat) (r : Option (Ex × St)) : Option (Ex × St) := match r with | some (.nrm, s) => some (.nrm, prune d live s) | some (.exit i, s) => some (.exit i, prune d live s) | r => r
def rndD (P : Prog) (C : Caller) (d : Nat) (live : List Nat) (b : MC) (π : List Nat) (s : St) (q : Ora) : Option ((Ex × St) × List Con) :=
  match codeD P C d b π s q with
  | some (x, s, _, cs) =>
    match x with
    | .nrm => some ((.nrm, prune d live s), cs)
    | .exit i => some ((.exit i, prune d live s), cs)
    | .ret => some ((.ret, s), cs)
  | none => none
theorem rndD_sound {d : Nat} {live : List Nat} {b : MC} {π : List Nat} {s : St} {r : Ex × St} {q : Ora} {cs : List Con} (h : rndD P C d live b π s q = some (r, cs)) (hc : Holds P C cs) : rnd d live (bodyOf P C d b π s) = some r := by
  unfold rndD at h
  split at h
  · rename_i x s' q' cs' h1
    cases x with
    | nrm =>
      cases h
      unfold rnd bodyOf
      rw [codeD_sound h1 hc]
    | exit i =>
      cases h
      unfold rnd bodyOf
      rw [codeD_sound h1 hc]
    | ret =>
      cases h
      unfold rnd bodyOf
      rw [codeD_sound h1 hc]
  · cases h
theorem rnd_nxt {d : Nat} {live : List Nat} {r : Option (Ex × St)} {s : St} (h : rnd d live r = some (.nrm, s)) : nxt d live r = some s := by
  unfold rnd at h
  unfold nxt
  split at h
  · cases h; rfl
  · cases h
  · rename_i hn _
    exact absurd h (hn s)
theorem rnd_out {d : Nat} {live : List Nat} {r : Option (Ex × St)} {x : Ex} {s : St} (h : rnd d live r = some (x, s)) (hx : x ≠ .nrm) : ∃ s0, r = some (x, s0) ∧ outP d live x s0 = s := by
  unfold rnd at h
  split at h
  · cases h; exact absurd rfl hx
  · cases h; exact ⟨_, rfl, rfl⟩
  · rename_i h1 h2
    refine ⟨s, h, ?_⟩
    cases x with
    | nrm => exact absurd rfl hx
    | exit i => exact absurd h (h2 _ _)
    | ret => rfl
/-- a loop, by its rounds: those that go on, and the one that ends it -/
theorem LP_rnd {body : List Nat → St → Option (Ex × St)} {d : Nat} {live π : List Nat} (A : Nat → St) (n : Nat) {L j : Nat} {x : Ex} {s' : St} (hn : n ≤ L)
    (h : ∀ i, i < n → rnd d live (body ((j + i) :: π) (A i)) = some (.nrm, A (i + 1))) (he : rnd d live (body ((j + n) :: π) (A n)) = some (x, s')) (hx : x ≠ .nrm) : ∃ s0, LP body d live π L j (A 0) = some (x, s0) ∧ outP d live x s0 = s' := by
  obtain ⟨s0, h1, h2⟩ := rnd_out he hx
  exact ⟨s0, LP_go A n hn (fun i hi => rnd_nxt (h i hi)) h1 hx, h2⟩
/-- a list handed in, element by element -/
theorem el_at {els : List (List AV)} {i : Nat} {cs : List AV} (h : els[i]? = some cs) : Con.holds P C (.el els (.int .i64 i) cs) := by
  refine ⟨i, ?_, h⟩
  have : i < els.length := by
    rcases Nat.lt_or_ge i els.length with h1 | h1
    · exact h1
    · rw [List.getElem?_eq_none h1] at h; cases h
  simp only [idx]
  rw [if_pos (by omega)]
  simp
theorem ix_at {i m : Nat} (h : i < m) : Con.holds P C (.ix (.int .i64 i) m i) := by
  show idx _ _ = _
  simp only [idx]
  rw [if_pos (by omega)]
  simp
theorem st_same {st : List Nat} : Con.holds P C (.st st st) := rfl
theorem spec_is {f : FuncId} {g : List AV → Option AV} {avs : List AV} {r : AV} (h : P.spec f = some g) (h2 : g avs = some r) : Con.holds P C (.spec f avs r) := ⟨g, h, h2⟩
theorem call_den {n : Nat} {f : FuncId} {avs : List AV} {r : AV} (h : den P n f avs = some r) : Con.holds P (runF P n) (.call f avs r) := h
end
end Go.Proofs.Ytnphdnokedhhkaa.Fw
namespace Go.Proofs.Ytnphdnokedhhkaa.Fw
open Go Go.RowKit
/-- what a round comes to: it goes on or leaves the loop in a state, or the function returns -/
inductive RO where
  | go (x : Ex) (s : St)
  | out (r : AV)
/-- what a state hands back -/
def outS (s : St) (res : List RV) : Option AV :=
  match resOf s res with
  | none => none
  | some r => match distinct r.refs with | true => packT true 0 s.H r | false => none
def outX (s : St) (res : List RV) : Option (AV × List Con) :=
  match resOf s res with
  | none => none
  | some r => match distinct r.refs with | true => packTX 0 s.H r | false => none
section
variable {P : Prog} {C : Caller}
theorem outX_sound {s : St} {res : List RV} {r : AV} {cs : List Con} (h : outX s res = some (r, cs)) (hc : Holds P C cs) : outS s res = some r := by
  unfold outX at h
  unfold outS
  cases h1 : resOf s res with
  | none => rw [h1] at h; cases h
  | some r0 =>
    rw [h1] at h
    simp only at h ⊢
    cases hd : distinct r0.refs with
    | false => rw [hd] at h; cases h
    | true =>
      rw [hd] at h
      exact packTX_sound h hc
def seeZ (d : Nat) (live : List Nat) (res : List RV) (r : Option (Ex × St)) : Option RO :=
  match rnd d live r with
  | some (.ret, s) => (outS s res).map .out
  | some (x, s) => some (.go x s)
  | none => none
def rndZ (P : Prog) (C : Caller) (d : Nat) (live : List Nat) (res : List RV) (b : MC) (π : List Nat) (s : St) (q : Ora) : Option (RO × List Con) :=
  match codeD P C d b π s q with
  | some (x, s, _, cs) =>
    match x with
    | .nrm => some (.go .nrm (prune d live s), cs)
    | .exit i => some (.go (.exit i) (prune d live s), cs)
    | .ret => match outX s res with | some (r, ds) => some (.out r, cs ++ ds) | none => none
  | none => none
theorem rndZ_sound {d : Nat} {live : List Nat} {res : List RV} {b : MC} {π : List Nat} {s : St} {q : Ora} {r : RO} {cs : List Con} (h : rndZ P C d live res b π s q = some (r, cs)) (hc : Holds P C cs) :
    seeZ d live res (bodyOf P C d b π s) = some r := by
  unfold rndZ at h
  split at h
  · rename_i x s' q' cs' h1
    cases x with
    | nrm => cases h; unfold seeZ rnd bodyOf; rw [codeD_sound h1 hc]
    | exit i => cases h; unfold seeZ rnd bodyOf; rw [codeD_sound h1 hc]
    | ret =>
      simp only at h
      split at h
      · rename_i r0 ds h2
        cases h
        rw [holds_app] at hc
        unfold seeZ rnd bodyOf
        rw [codeD_sound h1 hc.1]
        simp only [outX_sound h2 hc.2, Option.map_some]
      · cases h
  · cases h
theorem seeZ_go {d : Nat} {live : List Nat} {res : List RV} {r : Option (Ex × St)} {x : Ex} {s : St} (h : seeZ d live res r = some (.go x s)) : rnd d live r = some (x, s) := by
  unfold seeZ at h
  cases hr : rnd d live r with
  | none => rw [hr] at h; cases h
  | some p =>
    obtain ⟨x', s'⟩ := p
    rw [hr] at h
    cases x' with
    | ret =>
      simp only at h
      cases ho : outS s' res with
      | none => rw [ho] at h; cases h
      | some v => rw [ho] at h; cases h
    | nrm => cases h; rfl
    | exit i => cases h; rfl
theorem seeZ_out {d : Nat} {live : List Nat} {res : List RV} {r : Option (Ex × St)} {v : AV} (h : seeZ d live res r = some (.out v)) : ∃ s, rnd d live r = some (.ret, s) ∧ outS s res = some v := by
  unfold seeZ at h
  cases hr : rnd d live r with
  | none => rw [hr] at h; cases h
  | some p =>
    obtain ⟨x', s'⟩ := p
    rw [hr] at h
    cases x' with
    | ret =>
      simp only at h
      cases ho : outS s' res with
      | none => rw [ho] at h; cases h
      | some w => rw [ho] at h; cases h; exact ⟨s', rfl, ho⟩
    | nrm => cases h
    | exit i => cases h
theorem LP_rnd0 {body : List Nat → St → Option (Ex × St)} {d : Nat} {live π : List Nat} (A : Nat → St) (n : Nat) {L : Nat} {x : Ex} {s' : St} (hn : n ≤ L)
    (h : ∀ i, i < n → rnd d live (body (i :: π) (A i)) = some (.nrm, A (i + 1))) (he : rnd d live (body (n :: π) (A n)) = some (x, s')) (hx : x ≠ .nrm) : ∃ s0, LP body d live π L 0 (A 0) = some (x, s0) ∧ outP d live x s0 = s' := by
  refine LP_rnd A n hn (fun i hi => ?_) ?_ hx
  · rw [Nat.zero_add]; exact h i hi
  · rw [Nat.zero_add]; exact he
/-- a loop, by its rounds -/
theorem loop0 {L d : Nat} {live π : List Nat} {m : MC} (A : Nat → St) (n : Nat) {x : Ex} {s' : St} (hL : P.L = L + 1) (hn : n ≤ L)
    (h : ∀ i, i < n → rnd d live (bodyOf P C d m (i :: π) (A i)) = some (.nrm, A (i + 1))) (he : rnd d live (bodyOf P C d m (n :: π) (A n)) = some (x, s')) (hx : x ≠ .nrm) :
    Con.holds P C (.loop d live m π (A 0) x s') := by
  obtain ⟨s0, h1, h2⟩ := LP_rnd0 A n hn h he hx
  exact ⟨L, s0, hL, h1, by rw [h2], by rw [h2]⟩
/-- a loop out of which the function returns -/
theorem loopZ {L d : Nat} {live π : List Nat} {m : MC} {res : List RV} (A : Nat → St) (n : Nat) {v : AV} (hL : P.L = L + 1) (hn : n ≤ L)
    (h : ∀ i, i < n → seeZ d live res (bodyOf P C d m (i :: π) (A i)) = some (.go .nrm (A (i + 1)))) (he : seeZ d live res (bodyOf P C d m (n :: π) (A n)) = some (.out v)) :
    ∃ s', Con.holds P C (.loop d live m π (A 0) .ret s') ∧ outS s' res = some v := by
  obtain ⟨s', h1, h2⟩ := seeZ_out he
  exact ⟨s', loop0 A n hL hn (fun i hi => seeZ_go (h i hi)) h1 (by simp), h2⟩
theorem loopX {L d : Nat} {live π : List Nat} {m : MC} {res : List RV} (A : Nat → St) (n : Nat) {x : Ex} {s' : St} (hL : P.L = L + 1) (hn : n ≤ L)
    (h : ∀ i, i < n → seeZ d live res (bodyOf P C d m (i :: π) (A i)) = some (.go .nrm (A (i + 1)))) (he : seeZ d live res (bodyOf P C d m (n :: π) (A n)) = some (.go x s')) (hx : x ≠ .nrm) :
    Con.holds P C (.loop d live m π (A 0) x s') := loop0 A n hL hn (fun i hi => seeZ_go (h i hi)) (seeZ_go he) hx
theorem resOne_k (s : St) (k : Nat) (v : RV) : resOne ⟨s.env, s.H, k⟩ v = resOne s v := by cases v <;> rfl
theorem outS_k (s : St) (k : Nat) (res : List RV) : outS ⟨s.env, s.H, k⟩ res = outS s res := by
  have : resOne ⟨s.env, s.H, k⟩ = resOne s := funext (resOne_k s k)
  unfold outS resOf
  rw [this]
/-- a whole call that ends with the state that a loop returned in -/
def tailD (P : Prog) (n : Nat) (f : FuncId) (args : List AV) (q : Ora) : Option (St × List Con) :=
  match P.fn f with
  | none => none
  | some fm =>
    match codeD P (runF P n) 0 fm.code [] ⟨argEnv 0 args, [], 0⟩ q with
    | some (.ret, s, _, cs) => some (s, cs)
    | _ => none
theorem tailD_sound {n : Nat} {f : FuncId} {args : List AV} {q : Ora} {s : St} {k : Nat} {cs : List Con} {fm : FnM} {v : AV} (h : tailD P n f args q = some (⟨s.env, s.H, k⟩, cs)) (hf : P.fn f = some fm) (hc : Holds P (runF P n) cs)
    (hv : outS s fm.res = some v) : den P (n + 1) f args = some v := by
  rw [← outS_k s k] at hv
  unfold tailD at h
  simp only [hf] at h
  split at h
  · rename_i s1 q' cs' h1
    cases h
    have h4 := codeD_sound h1 hc
    unfold den
    simp only [runF, hf, h4]
    unfold outS at hv
    split at hv
    · cases hv
    · rename_i r h2
      split at hv
      · rename_i hd
        simp only [h2, Option.map_some, hd, if_true, hv]
      · cases hv
  · cases h
end
end Go.Proofs.Ytnphdnokedhhkaa.Fw
namespace Go.Proofs.Ytnphdnokedhhkaa.Fw
open Go Go.RowKit
theorem wrapUp {i m : Nat} (h : i < m) (hm : m ≤ 140737488355328) : IntKind.wrap .i64 ((i : Int) + 1) = ((i + 1 : Nat) : Int) := by
  rw [wrap_id (by omega)]; omega
theorem takeUp {α : Type} {xs : List α} {i : Nat} (h : i < xs.length) : xs.take (i + 1) = xs.take i ++ [xs[i]] := by
  rw [List.take_add_one, List.getElem?_eq_getElem h]; rfl
theorem dLt {i m : Nat} (h : i < m) : decide ((i : Int) < (m : Int)) = true := by simpa using h
theorem dNlt {m : Nat} : decide ((m : Int) < (m : Int)) = false := by simp
theorem dT {p : Prop} [Decidable p] (h : p) : decide p = true := decide_eq_true h
theorem dF {p : Prop} [Decidable p] (h : ¬ p) : decide p = false := decide_eq_false h
theorem bneSame {x : Int} : (x != x) = false := by simp
theorem beqSame {x : Int} : (x == x) = true := by simp
theorem cutAll {els : List (List AV)} : cutX els 0 els.length = els := List.take_length
theorem leOut {out : List (List AV)} {P : Prog} {C : Caller} : Con.holds P C (.le (0 + out.length) out.length) := by show _ ≤ _; omega
theorem leSelf {m : Nat} {P : Prog} {C : Caller} : Con.holds P C (.le m m) := Nat.le_refl m
theorem firstBad {α : Type} (p : α → Bool) : ∀ zs : List α, zs.all p = true ∨ ∃ k, ∃ h : k < zs.length, (∀ i (hi : i < k), p (zs[i]'(Nat.lt_trans hi h)) = true) ∧ p zs[k] = false
  | [] => .inl rfl
  | a :: r => by
    cases ha : p a with
    | false => exact .inr ⟨0, by simp, fun i hi => absurd hi (by omega), ha⟩
    | true =>
      rcases firstBad p r with h | ⟨k, hk, h1, h2⟩
      · left; simp [List.all_cons, ha]; simpa using h
      · right
        refine ⟨k + 1, by simp; omega, fun i hi => ?_, by simpa using h2⟩
        cases i with
        | zero => simpa using ha
        | succ i => simpa using h1 i (by omega)
/-- a list whose elements are all of one form -/
theorem all_map {α : Type} {f : α → List AV} {els : List (List AV)} (h : ∀ el ∈ els, ∃ x, el = f x) : ∃ xs : List α, els = xs.map f := by
  induction els with
  | nil => exact ⟨[], rfl⟩
  | cons a r ih =>
    obtain ⟨x, rfl⟩ := h a (by simp)
    obtain ⟨xs, rfl⟩ := ih fun e he => h e (by simp [he])
    exact ⟨x :: xs, rfl⟩
theorem map_at {α : Type} {f : α → List AV} {xs : List α} {i : Nat} (h : i < xs.length) : (xs.map f)[i]? = some (f xs[i]) := by
  rw [List.getElem?_map, List.getElem?_eq_getElem h]; rfl
theorem mapTake_up {α : Type} {f : α → List AV} {xs : List α} {i : Nat} (h : i < xs.length) : (xs.take (i + 1)).map f = (xs.take i).map f ++ [f xs[i]] := by
  rw [takeUp h, List.map_append]; rfl
theorem mapTake_len {α : Type} {f : α → List AV} {xs : List α} {i : Nat} (h : i ≤ xs.length) : ((xs.take i).map f).length = i := by
  rw [List.length_map, List.length_take]; omega
/-! ### elements by their kind -/
def celF (x : Nat) : List AV := [.flt x]
def celI (x : Int) : List AV := [.int .i64 x]
def celC (z : Nat × Nat) : List AV := [.cpx z.1 z.2]
def celS (s : (Nat × Nat) × Bool) : List AV := [.cpx s.1.1 s.1.2, .bool s.2]
def unF : List AV → Option Nat
  | [.flt x] => some x
  | _ => none
def unI : List AV → Option Int
  | [.v (.int .i64 x)] => some x
  | _ => none
def unC : List AV → Option (Nat × Nat)
  | [.cpx a b] => some (a, b)
  | _ => none
def unS : List AV → Option ((Nat × Nat) × Bool)
  | [.cpx a b, .v (.bool c)] => some ((a, b), c)
  | _ => none
def unL {α : Type} (f : List AV → Option α) : List (List AV) → Option (List α)
  | [] => some []
  | e :: r =>
    match f e, unL f r with
    | some a, some l => some (a :: l)
    | _, _ => none
theorem unL_enc {α : Type} {f : List AV → Option α} {enc : α → List AV} (h : ∀ x, f (enc x) = some x) : ∀ xs : List α, unL f (xs.map enc) = some xs
  | [] => rfl
  | x :: r => by simp only [List.map_cons, unL, h, unL_enc h r]
theorem unL_inv {α : Type} {f : List AV → Option α} {enc : α → List AV} (h : ∀ e x, f e = some x → e = enc x) : ∀ {els : List (List AV)} {xs : List α}, unL f els = some xs → els = xs.map enc
  | [], xs, hx => by simp only [unL] at hx; cases hx; rfl
  | e :: r, xs, hx => by
    simp only [unL] at hx
    split at hx
    · rename_i a l h1 h2
      cases hx
      rw [List.map_cons, ← h e a h1, ← unL_inv h h2]
    · cases hx
theorem unF_is (e : List AV) (x : Nat) (h : unF e = some x) : e = celF x := by
  unfold unF at h; split at h <;> cases h; rfl
theorem unI_is (e : List AV) (x : Int) (h : unI e = some x) : e = celI x := by
  unfold unI at h; split at h <;> cases h; rfl
theorem unC_is (e : List AV) (x : Nat × Nat) (h : unC e = some x) : e = celC x := by
  unfold unC at h; split at h <;> cases h; rfl
theorem unS_is (e : List AV) (x : (Nat × Nat) × Bool) (h : unS e = some x) : e = celS x := by
  unfold unS at h; split at h <;> cases h; rfl
theorem unF_L (xs : List Nat) : unL unF (xs.map celF) = some xs := unL_enc (enc := celF) (fun _ => rfl) xs
theorem unI_L (xs : List Int) : unL unI (xs.map celI) = some xs := unL_enc (enc := celI) (fun _ => rfl) xs
theorem unC_L (xs : List (Nat × Nat)) : unL unC (xs.map celC) = some xs := unL_enc (enc := celC) (fun _ => rfl) xs
theorem unS_L (xs : List ((Nat × Nat) × Bool)) : unL unS (xs.map celS) = some xs := unL_enc (enc := celS) (fun _ => rfl) xs
theorem map_set {α : Type} (f : α → List AV) (xs : List α) (i : Nat) (x : α) : (xs.map f).set i (f x) = (xs.set i x).map f := by
  rw [List.map_set]
theorem map_len {α : Type} {f : α → List AV} {xs : List α} : (xs.map f).length = xs.length := List.length_map ..
/-- an element by its place, and the cell that holds it -/
theorem el_map {P : Prog} {C : Caller} {α : Type} {f : α → List AV} {xs : List α} {i : Nat} (h : i < xs.length) : Con.holds P C (.el (xs.map f) (.int .i64 i) (f xs[i])) := el_at (map_at h)
theorem elD_map {P : Prog} {C : Caller} {α : Type} {f : α → List AV} {xs : List α} {i : Nat} {d : α} (h : i < xs.length) : Con.holds P C (.el (xs.map f) (.int .i64 i) (f (xs.getD i d))) := by
  rw [List.getD_eq_getElem?_getD, List.getElem?_eq_getElem h]; exact el_map h
theorem at_map {P : Prog} {C : Caller} {α : Type} {f : α → List AV} {xs : List α} {i : Nat} (h : i < xs.length) : Con.holds P C (.at (xs.map f) i (f xs[i])) := map_at h
theorem atD_map {P : Prog} {C : Caller} {α : Type} {f : α → List AV} {xs : List α} {i : Nat} {d : α} (h : i < xs.length) : Con.holds P C (.at (xs.map f) i (f (xs.getD i d))) := by
  rw [List.getD_eq_getElem?_getD, List.getElem?_eq_getElem h]; exact map_at h
theorem push_ok {P : Prog} {C : Caller} {len m bytes : Nat} {els : List (List AV)} (h : len = els.length) (h1 : (len + m) * bytes ≤ most) : Con.holds P C (.push len m bytes els) :=
  ⟨h, .inl h1, fun h0 => .inl (by subst h0; simpa using h1)⟩
theorem push_ok2 {P : Prog} {C : Caller} {len m bytes : Nat} {els : List (List AV)} (h : len = els.length) (h1 : roomOk (len + m) bytes) : Con.holds P C (.push len m bytes els) :=
  ⟨h, h1, fun h0 => by subst h0; simpa only [Nat.zero_add] using h1⟩
theorem lens_map {α : Type} {f : α → List AV} {z : Nat} (h : ∀ x, (f x).length = z ∧ allCell (f x) = true) : ∀ xs : List α, lens z (xs.map f) = true
  | [] => rfl
  | x :: r => by simp only [List.map_cons, lens, (h x).1, (h x).2, lens_map h r, decide_true, Bool.and_self]
theorem dry_map {α : Type} {f : α → List AV} (h : ∀ x, dryL (f x) = true) : ∀ xs : List α, dryEls (xs.map f) = true
  | [] => rfl
  | x :: r => by simp only [List.map_cons, dryEls, h x, dry_map h r, Bool.and_self]
theorem cat_ok {P : Prog} {C : Caller} {α : Type} {f : α → List AV} {z bytes : Nat} {leaf : Bool} {xs : List α} (h : ∀ x, (f x).length = z ∧ allCell (f x) = true) (h2 : ∀ x, dryL (f x) = true) (h3 : xs.length * bytes ≤ most) : Con.holds P C (.cat z bytes leaf (xs.map f)) :=
  ⟨lens_map h xs, fun _ => dry_map h2 xs, .inl (by rw [map_len]; exact h3)⟩
theorem cat_ok2 {P : Prog} {C : Caller} {α : Type} {f : α → List AV} {z bytes : Nat} {leaf : Bool} {xs : List α} (h : ∀ x, (f x).length = z ∧ allCell (f x) = true) (h2 : ∀ x, dryL (f x) = true) (h3 : roomOk xs.length bytes) : Con.holds P C (.cat z bytes leaf (xs.map f)) :=
  ⟨lens_map h xs, fun _ => dry_map h2 xs, by rw [map_len]; exact h3⟩
theorem catF_ok {P : Prog} {C : Caller} {bytes : Nat} {leaf : Bool} {xs : List Nat} (h3 : xs.length * bytes ≤ most) : Con.holds P C (.cat 1 bytes leaf (xs.map celF)) := cat_ok (fun _ => ⟨rfl, rfl⟩) (fun _ => rfl) h3
theorem catC_ok {P : Prog} {C : Caller} {bytes : Nat} {leaf : Bool} {xs : List (Nat × Nat)} (h3 : xs.length * bytes ≤ most) : Con.holds P C (.cat 1 bytes leaf (xs.map celC)) := cat_ok (fun _ => ⟨rfl, rfl⟩) (fun _ => rfl) h3
theorem catI_ok {P : Prog} {C : Caller} {bytes : Nat} {leaf : Bool} {xs : List Int} (h3 : xs.length * bytes ≤ most) : Con.holds P C (.cat 1 bytes leaf (xs.map celI)) := cat_ok (fun _ => ⟨rfl, rfl⟩) (fun _ => rfl) h3
theorem catS_ok {P : Prog} {C : Caller} {bytes : Nat} {leaf : Bool} {xs : List ((Nat × Nat) × Bool)} (h3 : xs.length * bytes ≤ most) : Con.holds P C (.cat 2 bytes leaf (xs.map celS)) := cat_ok (fun _ => ⟨rfl, rfl⟩) (fun _ => rfl) h3
theorem mk_ok {P : Prog} {C : Caller} {α : Type} {f : α → List AV} {m bytes : Nat} {li : Int} {a : α} (h : li = m) (h1 : m * bytes ≤ most) (h2 : m ≤ most) : Con.holds P C (.mk m m true ((List.replicate m a).map f) li li bytes (f a)) :=
  ⟨h, h, Nat.le_refl _, h1, h2, by simp, by rw [List.map_replicate]⟩
theorem mk0_ok {P : Prog} {C : Caller} {m bytes : Nat} {ci : Int} {zero : List AV} (h : ci = m) (h1 : m * bytes ≤ most) (h2 : m ≤ most) (h3 : 0 < m) : Con.holds P C (.mk 0 m false [] 0 ci bytes zero) :=
  ⟨rfl, h, Nat.zero_le _, h1, h2, by simp; omega, rfl⟩
/-- a part of a list handed in -/
theorem sl_lst {P : Prog} {C : Caller} {z a b : Nat} {els : List (List AV)} (h1 : a ≤ b) (h2 : b ≤ els.length) : Con.holds P C (.sl (some z) (.lst z els) (some (.int .i64 a)) (some (.int .i64 b)) none (.lst z ((els.take b).drop a))) := by
  show sliceSem _ _ _ _ _ = _
  simp only [sliceSem, bnd]
  simp [h1, h2]
theorem sl_slc {P : Prog} {C : Caller} {z a b off len : Nat} {s : Site} {st : List Nat} {full : Bool} (h1 : a ≤ b) (h2 : b ≤ len) : Con.holds P C (.sl (some z) (.slc s st z off len full) (some (.int .i64 a)) (some (.int .i64 b)) none (.slc s st z (off + a) (b - a) (full && decide (b = len)))) := by
  show sliceSem _ _ _ _ _ = _
  simp only [sliceSem, bnd]
  simp [h1, h2]
end Go.Proofs.Ytnphdnokedhhkaa.Fw
namespace Go.Proofs.Ytnphdnokedhhkaa.Fw
open Go

theorem feq_iff (a b : Nat) : feq a b = true ↔ ford a b = some .eq := by
  unfold feq; simp
theorem signed_add (s : Bool) (m k e : Nat) : Ieee.signed s m (k + e) = Ieee.signed s m k * 2 ^ e := by
  unfold Ieee.signed
  simp only [Nat.shiftLeft_eq, Nat.pow_add, ← Nat.mul_assoc]
  cases s
  · simp only [Bool.false_eq_true, if_false]; push_cast; rfl
  · simp only [if_true]; push_cast; rw [Int.neg_mul]
theorem order_eq_at {s t : Bool} {m n : Nat} {i j c : Int} (hc : c ≤ i ∧ c ≤ j) :
    (Ieee.Datum.number s m i).order (.number t n j) = some .eq ↔ Ieee.signed s m (i - c).toNat = Ieee.signed t n (j - c).toNat := by
  have e1 : (i - c).toNat = (i - min i j).toNat + (min i j - c).toNat := by omega
  have e2 : (j - c).toNat = (j - min i j).toNat + (min i j - c).toNat := by omega
  have hp : (2 : Int) ^ (min i j - c).toNat ≠ 0 := by
    have : (0 : Int) < 2 ^ (min i j - c).toNat := Int.pow_pos (by decide)
    omega
  rw [e1, e2, signed_add, signed_add, Int.mul_eq_mul_right_iff hp]
  simp only [Ieee.Datum.order, Option.some.injEq]
  rw [Int.compare_eq_eq]
theorem feq_same {x a b : Nat} (h1 : feq x a = true) (h2 : feq x b = true) : feq a b = true := by
  rw [feq_iff] at *
  unfold ford Ieee.Format.order at *
  cases hx : Ieee.double.read x with
  | nan s f => rw [hx] at h1; simp [Ieee.Datum.order] at h1
  | infinity s =>
    rw [hx] at h1 h2
    cases ha : Ieee.double.read a with
    | nan t f => rw [ha] at h1; simp [Ieee.Datum.order] at h1
    | number t n j => rw [ha] at h1; simp only [Ieee.Datum.order, Option.some.injEq] at h1; split at h1 <;> cases h1
    | infinity t =>
      cases hb : Ieee.double.read b with
      | nan t f => rw [hb] at h2; simp [Ieee.Datum.order] at h2
      | number t n j => rw [hb] at h2; simp only [Ieee.Datum.order, Option.some.injEq] at h2; split at h2 <;> cases h2
      | infinity u =>
        rw [ha] at h1
        rw [hb] at h2
        revert h1 h2
        cases s <;> cases t <;> cases u <;> decide
  | number s m i =>
    rw [hx] at h1 h2
    cases ha : Ieee.double.read a with
    | nan t f => rw [ha] at h1; simp [Ieee.Datum.order] at h1
    | infinity t => rw [ha] at h1; simp only [Ieee.Datum.order, Option.some.injEq] at h1; split at h1 <;> cases h1
    | number t n j =>
      cases hb : Ieee.double.read b with
      | nan t f => rw [hb] at h2; simp [Ieee.Datum.order] at h2
      | infinity t => rw [hb] at h2; simp only [Ieee.Datum.order, Option.some.injEq] at h2; split at h2 <;> cases h2
      | number u p k =>
        rw [ha] at h1
        rw [hb] at h2
        have c1 : min i (min j k) ≤ i := by omega
        have c2 : min i (min j k) ≤ j := by omega
        have c3 : min i (min j k) ≤ k := by omega
        rw [order_eq_at ⟨c1, c2⟩] at h1
        rw [order_eq_at ⟨c1, c3⟩] at h2
        rw [order_eq_at ⟨c2, c3⟩, ← h1, ← h2]
end Go.Proofs.Ytnphdnokedhhkaa.Fw
