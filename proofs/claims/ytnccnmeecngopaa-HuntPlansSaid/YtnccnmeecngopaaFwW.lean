/- The abstract evaluator, part W: what a law is handed, as values of the evaluator. -/
import Derived.Test.YtnccnmeecngopaaFwV
import Derived.ProofKit
import Derived.HandedShaped
import Derived.OpenShut
set_option linter.unusedVariables false
set_option linter.unusedSimpArgs false
set_option linter.unnecessarySimpa false
namespace Go.Proofs.Ytnccnmeecngopaa.Fw
open Go Go.RowKit Go.ChangeShapes Go.WideShapes

def FitsEach (F : TypeId → List AV → Prop) : List TypeId → List (List AV) → Prop
  | [], [] => True
  | t :: ts, p :: ps => F t p ∧ FitsEach F ts ps
  | _, _ => False

/-- the cells of a datum of a type -/
def Fits (P : Program) : Nat → TypeId → List AV → Prop
  | 0, _, _ => False
  | n + 1, t, cs =>
    match P.underlying t with
    | some .bool => ∃ b, cs = [.v (.bool b)]
    | some (.int k) => ∃ x, cs = [.v (.int k x)] ∧ (Lit.int k x).wf = true
    | some (.float .f64) => ∃ b, cs = [.flt (canon b)] ∧ b < 2 ^ 64
    | some .string => ∃ s : ByteArray, cs = [.v (.string s)] ∧ s.size ≤ reachBytes
    | some (.slice e) => cs = [.nils] ∨ ∃ els, cs = [.lst (P.cellsOf e) els] ∧ els.length * P.bytesOf e ≤ reachBytes ∧ ∀ el ∈ els, Fits P n e el
    | some (.struct fs) => ∃ parts, cs = parts.flatten ∧ FitsEach (Fits P n) (fs.toList.map (·.type)) parts
    | some (.array m e) => ∃ parts, cs = parts.flatten ∧ FitsEach (Fits P n) (List.replicate m e) parts
    | _ => False

/-- types whose data the evaluator takes -/
def plainTy (P : Program) : Nat → TypeId → Bool
  | 0, _ => false
  | n + 1, t =>
    decide (t < P.types.size) &&
    match P.underlying t with
    | some .bool | some (.int _) | some (.float .f64) | some .string => true
    | some (.slice e) => decide (0 < P.cellsOf e) && plainTy P n e
    | some (.struct fs) => fs.toList.all fun f => plainTy P n f.type
    | some (.array _ e) => plainTy P n e
    | _ => false

theorem pick {α : Type} {Q : Nat → α → Prop} : ∀ n, (∀ i, i < n → ∃ y, Q i y) → ∃ ys : List α, ys.length = n ∧ ∀ i y, ys[i]? = some y → Q i y
  | 0, _ => ⟨[], rfl, fun i y h => by simp at h⟩
  | n + 1, h => by
    obtain ⟨ys, h1, h2⟩ := pick n fun i hi => h i (by omega)
    obtain ⟨y, hy⟩ := h n (by omega)
    refine ⟨ys ++ [y], by simp [h1], fun i z hz => ?_⟩
    by_cases hi : i < n
    · rw [List.getElem?_append_left (by omega)] at hz
      exact h2 i z hz
    · rw [List.getElem?_append_right (by omega)] at hz
      have : i - ys.length = 0 := by
        rcases Nat.eq_zero_or_pos (i - ys.length) with h | h
        · exact h
        · rw [List.getElem?_eq_none (by simp; omega)] at hz; cases hz
      rw [this] at hz
      simp at hz
      subst hz
      rw [show i = n by omega]
      exact hy

section
variable {H : Type} {enc : TypeId × Value → H} {P : Program} {W : World} {sp : Nat → Bool}

/-- what a run of cells becomes -/
def Took (P : Program) (W : World) (n : Nat) (t : TypeId) (cs : List Value) (as : List AV) : Prop :=
  Fits P n t as ∧ as.length = P.cellsOf t ∧ AV.clL as = true ∧ RelL (ρ0 fun _ => False) old0 W as cs

theorem clL_append : ∀ {a b : List AV}, AV.clL a = true → AV.clL b = true → AV.clL (a ++ b) = true
  | [], b, _, h => h
  | x :: a, b, h, k => by
    simp only [AV.clL, Bool.and_eq_true, List.cons_append] at h ⊢
    exact ⟨h.1, clL_append h.2 k⟩

theorem clL_at' : ∀ {cs : List AV}, AV.clL cs = true → ∀ (j : Nat) (v : AV), cs[j]? = some v → v.cl = true
  | [], _, j, v, h => by simp at h
  | c :: r, hc, 0, v, h => by
    simp only [AV.clL, Bool.and_eq_true] at hc
    simp at h; subst h; exact hc.1
  | c :: r, hc, j + 1, v, h => by
    simp only [AV.clL, Bool.and_eq_true] at hc
    simp at h
    exact clL_at' hc.2 j v h

theorem took_parts (n : Nat) : ∀ (l : List (TypeId × Nat)) (o : Nat) (cs : List Value), (∀ (j : Nat) x, l[j]? = some x → x.2 = o + ((l.take j).map fun y => P.cellsOf y.1).sum) →
    (∀ x ∈ l, ∃ as, Took P W n x.1 ((cs.drop x.2).take (P.cellsOf x.1)) as) →
    ∃ parts, FitsEach (Fits P n) (l.map (·.1)) parts ∧ parts.flatten.length = (l.map fun y => P.cellsOf y.1).sum ∧ AV.clL parts.flatten = true ∧
      RelL (ρ0 fun _ => False) old0 W parts.flatten ((cs.drop o).take (l.map fun y => P.cellsOf y.1).sum)
  | [], o, cs, _, _ => ⟨[], by simp only [List.map_nil, FitsEach], rfl, rfl, by simp [RelL]⟩
  | x :: l, o, cs, ho, h => by
    obtain ⟨as, h1, h2, h3, h4⟩ := h x (by simp)
    have hx : x.2 = o := by simpa using ho 0 x rfl
    obtain ⟨parts, k1, k2, k3, k4⟩ := took_parts n l (o + P.cellsOf x.1) cs (fun j y hy => by
      have := ho (j + 1) y (by simpa using hy)
      simp only [List.take_succ_cons, List.map_cons, List.sum_cons] at this
      omega) fun y hy => h y (by simp [hy])
    refine ⟨as :: parts, by simp only [List.map_cons, FitsEach]; exact ⟨h1, k1⟩, by simp [h2, k2], clL_append h3 k3, ?_⟩
    simp only [List.map_cons, List.sum_cons, List.flatten_cons]
    rw [List.take_add, List.drop_drop]
    rw [hx] at h4
    exact h4.append k4

theorem trod_float {base fuel : Nat} {held : Bool} {t : TypeId} {k : FloatKind} {cs : List Value} {x : DataW H × List MemPlace} (ht : P.underlying t = some (.float k)) (h : DataW.trod enc P W base sp held fuel t cs = some x) : ∃ b, cs = [.float k b] ∧ x = (.lit (.float k b), []) ∧ (Lit.float k b).wf = true := by
  cases fuel with
  | zero => simp [DataW.trod] at h
  | succ n =>
    unfold DataW.trod at h
    rw [ht] at h
    split at h <;> simp_all

theorem trod_took (hl : laidOutB P = true) : ∀ (n fuel : Nat) (t : TypeId) (cs : List Value) (x : DataW H × List MemPlace), plainTy P n t = true → DataW.trod enc P W 0 sp true fuel t cs = some x →
    (∀ y ∈ x.1.weights P t, y ≤ reachBytes) → ∃ as, Took P W n t cs as ∧ cs.length = P.cellsOf t
  | 0, fuel, t, cs, x, hp, h, hw => by simp [plainTy] at hp
  | n + 1, fuel, t, cs, x, hp, h, hw => by
    have hno : ∀ b, ¬ owned (ρ0 fun _ => False) b := noown _ (fun _ h => h)
    simp only [plainTy, Bool.and_eq_true, decide_eq_true_eq] at hp
    obtain ⟨hrow, hp⟩ := hp
    have one : ∀ {a : AV} {u : Value}, P.cellsOf t = 1 → Fits P (n + 1) t [a] → a.cl = true → RelV (ρ0 fun _ => False) old0 W a u → ∃ as, Took P W (n + 1) t [u] as ∧ [u].length = P.cellsOf t := by
      intro a u hc hf hcl hr
      exact ⟨[a], ⟨hf, by simp [hc], by simp [AV.clL, hcl], by simp only [RelL]; exact ⟨hr, trivial⟩⟩, by simp [hc]⟩
    cases ht : P.underlying t with
    | none => rw [ht] at hp; cases hp
    | some k =>
      have c1 : ∀ {k}, P.underlying t = some k → (match k with | .bool => True | .int _ => True | .float _ => True | .string => True | .slice _ => True | _ => False) → P.cellsOf t = 1 := by
        intro k hk hm
        have := rowFine_of hl hrow
        simp [rowFine, isVar, hrow, hk] at this
        revert this
        cases k <;> simp_all [kindOk]
      rw [ht] at hp
      cases k <;> first | (cases hp; done) | skip
      case bool =>
        obtain ⟨b, rfl, rfl⟩ := DataW.trod_bool ht h
        exact one (a := .v (.bool b)) (c1 ht trivial) (by simp only [Fits, ht]; exact ⟨b, rfl⟩) rfl (by simp only [RelV])
      case int k =>
        obtain ⟨b, rfl, rfl, hwf⟩ := DataW.trod_int ht h
        exact one (a := .v (.int k b)) (c1 ht trivial) (by simp only [Fits, ht]; exact ⟨b, rfl, hwf⟩) rfl (by simp only [RelV])
      case float k =>
        cases k with
        | f32 => simp at hp
        | f64 =>
          obtain ⟨b, rfl, rfl, hwf⟩ := trod_float ht h
          exact one (a := .flt (canon b)) (c1 ht trivial) (by simp only [Fits, ht]; exact ⟨b, rfl, by simpa [Lit.wf] using hwf⟩) rfl (by simp only [RelV]; exact ⟨b, rfl, rfl⟩)
      case string =>
        obtain ⟨s, rfl, rfl, hs⟩ := DataW.trod_string ht h
        refine one (a := .v (.string s)) (c1 ht trivial) (by simp only [Fits, ht]; exact ⟨s, rfl, by simpa [DataW.weights] using hw⟩) rfl (by simp only [RelV])
      case slice e =>
        simp only [Bool.and_eq_true, decide_eq_true_eq] at hp
        obtain ⟨hz, hpe⟩ := hp
        rcases DataW.trod_slice ht h with ⟨rfl, rfl⟩ | ⟨a, len, cap, elems, rest, m, rfl, rfl, rfl, _, hlc, hcm, hlen, helem, _, _⟩
        · exact one (a := .nils) (c1 ht trivial) (by simp [Fits, ht]) rfl (by simp only [RelV])
        · simp only [DataW.weights, ht, List.mem_cons, List.mem_append, forall_eq_or_imp] at hw
          obtain ⟨hw1, hw2⟩ := hw
          have hwe : ∀ (i : Nat) (y : DataW H × List MemPlace), elems[i]? = some y → ∀ z ∈ y.1.weights P e, z ≤ reachBytes := by
            intro i y hy z hz
            refine hw2 z (.inl ?_)
            have : ∀ (l : List (DataW H)) (d : DataW H), d ∈ l → z ∈ d.weights P e → z ∈ DataW.weightsAll P e l := by
              intro l
              induction l with
              | nil => intro d hd; simp at hd
              | cons c r ih =>
                intro d hd hz
                simp only [DataW.weightsAll, List.mem_append]
                rcases List.mem_cons.1 hd with rfl | hd
                · exact .inl hz
                · exact .inr (ih d hd hz)
            exact this _ y.1 (List.mem_map.2 ⟨y, List.mem_of_getElem? hy, rfl⟩) hz
          have hspot0 : 0 < len → a.spot = none := by
            intro hi
            have h1 := helem 0 hi
            have h2 : elems[0]? = some (elems[0]'(by omega)) := by simp
            rw [h2, Option.bind_eq_some_iff] at h1
            obtain ⟨ci, h3, h4⟩ := h1
            obtain ⟨_, h5, h6⟩ := World.cells?_some h3
            have g0 := h6 0 hz
            obtain ⟨c0, hc0⟩ : ∃ c0, ci[0]? = some c0 := by
              cases ci with
              | nil => simp at h5; omega
              | cons c _ => exact ⟨c, rfl⟩
            rw [hc0] at g0
            simpa [Addr.add] using World.cell?_spot g0
          have each : ∀ i, i < len → ∃ as, Fits P n e as ∧ as.length = P.cellsOf e ∧ AV.clL as = true ∧ a.spot = none ∧ ∀ (j : Nat) (c : AV), as[j]? = some c → ∃ u, W.cell? ⟨a.block, a.off + i * P.cellsOf e + j, none⟩ = some u ∧ RelV (ρ0 fun _ => False) old0 W c u := by
            intro i hi
            have h1 := helem i hi
            have h2 : elems[i]? = some (elems[i]'(by omega)) := by simp [hlen, hi]
            rw [h2, Option.bind_eq_some_iff] at h1
            obtain ⟨ci, h3, h4⟩ := h1
            obtain ⟨_, h5, h6⟩ := World.cells?_some h3
            obtain ⟨as, ⟨k1, k2, k3, k4⟩, _⟩ := trod_took hl n m e ci _ hpe h4 (hwe i _ h2)
            have hspot := hspot0 (by omega)
            refine ⟨as, k1, k2, k3, hspot, fun j c hj => ?_⟩
            obtain ⟨u, hu, hr⟩ := relL_at k4 j c hj
            have hjz : j < P.cellsOf e := by rw [← k2]; exact (List.getElem?_eq_some_iff.1 hj).1
            have := h6 j hjz
            rw [hu] at this
            refine ⟨u, ?_, hr⟩
            have ha : a = ⟨a.block, a.off, none⟩ := by cases a; simp_all
            rw [← this]
            rw [show (a.add (i * P.cellsOf e)).add j = ⟨a.block, a.off + i * P.cellsOf e + j, none⟩ by rw [ha, add_plain, add_plain]]
          obtain ⟨els, hl1, hl2⟩ := pick len each
          subst hl1
          refine one (a := .lst (P.cellsOf e) els) (c1 ht trivial) ?_ rfl ?_
          · simp only [Fits, ht]
            refine .inr ⟨els, rfl, ?_, fun el hel => ?_⟩
            · refine Nat.le_trans (Nat.mul_le_mul_right _ ?_) hw1
              simp [hlen]
            · obtain ⟨i, hi⟩ := List.mem_iff_getElem?.1 hel
              exact (hl2 i el hi).1
          · simp only [RelV]
            refine ⟨a, cap, rfl, hlc, fun hne => ?_, els_of_at (hno _) fun i cs hi => ?_⟩
            · cases hq : els with
              | nil => exact absurd hq hne
              | cons c r => exact (hl2 0 c (by simp [hq])).2.2.2.1
            · obtain ⟨q1, q2, q3, q4, q5⟩ := hl2 i cs hi
              refine ⟨q2, fun j c hj => ⟨clL_at' q3 j c hj, q5 j c hj⟩⟩
      case struct fs =>
        obtain ⟨xs, m, rfl, rfl, hlen, hxl, hx⟩ := DataW.trod_struct ht h
        obtain ⟨_, hsum, hoff⟩ := kid_struct hl hrow ht
        simp only [DataW.weights, ht] at hw
        have hwe : ∀ (i : Nat) f y, fs.toList[i]? = some f → xs[i]? = some y → ∀ z ∈ y.1.weights P f.type, z ≤ reachBytes := by
          have : ∀ (l : List TypeId) (ds : List (DataW H)), (∀ z ∈ DataW.weightsEach P l ds, z ≤ reachBytes) → ∀ (i : Nat) t d, l[i]? = some t → ds[i]? = some d → ∀ z ∈ d.weights P t, z ≤ reachBytes := by
            intro l
            induction l with
            | nil => intro ds _ i t d hi; simp at hi
            | cons c r ih =>
              intro ds hd i t d hi hdi
              cases ds with
              | nil => simp at hdi
              | cons d0 ds =>
                simp only [DataW.weightsEach, List.mem_append] at hd
                cases i with
                | zero => simp at hi hdi; subst hi; subst hdi; exact fun z hz => hd z (.inl hz)
                | succ i => simp at hi hdi; exact ih ds (fun z hz => hd z (.inr hz)) i t d hi hdi
          intro i f y hf hy
          exact this _ _ hw i f.type y.1 (by simp [List.getElem?_map, hf]) (by simp [List.getElem?_map, hy])
        have := took_parts (P := P) (W := W) n (fs.toList.map fun f => (f.type, f.offset)) 0 cs (fun j y hy => by
          simp only [List.getElem?_map, Option.map_eq_some_iff] at hy
          obtain ⟨f, hf, rfl⟩ := hy
          have := hoff j f hf
          simp only [Nat.zero_add, ← List.map_take, List.map_map]
          exact this) (fun y hy => by
          simp only [List.mem_map] at hy
          obtain ⟨f, hf, rfl⟩ := hy
          obtain ⟨i, hi⟩ := List.mem_iff_getElem?.1 hf
          have h1 := hx i f (by simpa using hi)
          have hil : i < xs.length := by rw [hxl]; simpa using (List.getElem?_eq_some_iff.1 hi).1
          rw [show xs[i]? = some xs[i] by simp [hil]] at h1
          obtain ⟨as, k, _⟩ := trod_took hl n m f.type _ _ (by simpa using List.all_eq_true.1 hp f hf) h1 (hwe i f _ hi (by simp [hil]))
          exact ⟨as, k⟩)
        obtain ⟨parts, k1, k2, k3, k4⟩ := this
        simp only [List.map_map] at k1 k2 k4
        have hs : (fs.toList.map ((fun y : TypeId × Nat => P.cellsOf y.1) ∘ fun f => (f.type, f.offset))).sum = P.cellsOf t := by rw [hsum]; rfl
        rw [hs] at k2 k4
        refine ⟨parts.flatten, ⟨?_, k2, k3, ?_⟩, hlen⟩
        · simp only [Fits, ht]
          exact ⟨parts, rfl, k1⟩
        · rw [List.drop_zero, List.take_of_length_le (by omega)] at k4
          exact k4
      case array z e =>
        obtain ⟨xs, m, rfl, rfl, hlen, hxl, hx⟩ := DataW.trod_array ht h
        obtain ⟨_, hsum⟩ := kid_array hl hrow ht
        simp only [DataW.weights, ht] at hw
        have hwe : ∀ (i : Nat) y, xs[i]? = some y → ∀ z ∈ y.1.weights P e, z ≤ reachBytes := by
          have : ∀ (l : List (DataW H)), (∀ z ∈ DataW.weightsAll P e l, z ≤ reachBytes) → ∀ (i : Nat) d, l[i]? = some d → ∀ z ∈ d.weights P e, z ≤ reachBytes := by
            intro l
            induction l with
            | nil => intro _ i d hi; simp at hi
            | cons c r ih =>
              intro hd i d hi
              simp only [DataW.weightsAll, List.mem_append] at hd
              cases i with
              | zero => simp at hi; subst hi; exact fun z hz => hd z (.inl hz)
              | succ i => simp at hi; exact ih (fun z hz => hd z (.inr hz)) i d hi
          intro i y hy
          exact this _ hw i y.1 (by simp [List.getElem?_map, hy])
        have sums : ∀ (l : List Nat), (l.map fun _ => P.cellsOf e).sum = l.length * P.cellsOf e := by
          intro l
          induction l with
          | nil => simp
          | cons c r ih => simp only [List.map_cons, List.sum_cons, ih, List.length_cons, Nat.add_mul]; omega
        have := took_parts (P := P) (W := W) n ((List.range z).map fun i => (e, i * P.cellsOf e)) 0 cs (fun j y hy => by
          simp only [List.getElem?_map, Option.map_eq_some_iff] at hy
          obtain ⟨f, hf, rfl⟩ := hy
          have hj := (List.getElem?_eq_some_iff.1 hf).1
          simp at hj
          simp only [List.getElem?_range hj, Option.some.injEq] at hf
          subst hf
          simp only [Nat.zero_add, ← List.map_take, List.map_map, Function.comp_def]
          rw [sums]
          simp
          rw [Nat.min_eq_left (by omega)]) (fun y hy => by
          simp only [List.mem_map, List.mem_range] at hy
          obtain ⟨i, hi, rfl⟩ := hy
          have h1 := hx i hi
          have hil : i < xs.length := by omega
          rw [show xs[i]? = some xs[i] by simp [hil]] at h1
          obtain ⟨as, k, _⟩ := trod_took hl n m e _ _ hp h1 (hwe i _ (by simp [hil]))
          exact ⟨as, k⟩)
        obtain ⟨parts, k1, k2, k3, k4⟩ := this
        simp only [List.map_map, Function.comp_def] at k1 k2 k4
        rw [sums] at k2 k4
        simp only [List.length_range] at k2 k4
        rw [← hsum] at k2 k4
        refine ⟨parts.flatten, ⟨?_, k2, k3, ?_⟩, hlen⟩
        · simp only [Fits, ht]
          refine ⟨parts, rfl, ?_⟩
          rw [show List.replicate z e = (List.range z).map fun _ => e by simp [List.map_const']]
          exact k1
        · rw [List.drop_zero, List.take_of_length_le (by omega)] at k4
          exact k4
end
end Go.Proofs.Ytnccnmeecngopaa.Fw
