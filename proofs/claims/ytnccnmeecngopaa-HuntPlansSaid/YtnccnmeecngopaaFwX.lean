/- The abstract evaluator, part X: a law that the evaluator answers by 'true' holds as a row. -/
import Derived.Test.YtnccnmeecngopaaFwW
set_option linter.unusedVariables false
set_option linter.unusedSimpArgs false
set_option linter.unnecessarySimpa false
namespace Go.Proofs.Ytnccnmeecngopaa.Fw
open Go Go.RowKit Go.ChangeShapes Go.WideShapes

/-- one argument -/
def FitsV (P : Program) (n : Nat) (t : TypeId) (a : AV) : Prop :=
  match P.underlying t with
  | some (.struct _) => ∃ cs, a = .agg cs ∧ Fits P n t cs
  | some (.array _ _) => ∃ cs, a = .agg cs ∧ Fits P n t cs
  | _ => Fits P n t [a]
def FitsVs (P : Program) (n : Nat) : List TypeId → List AV → Prop
  | [], [] => True
  | t :: ts, a :: as => FitsV P n t a ∧ FitsVs P n ts as
  | _, _ => False

section
variable {H : Type} {enc : TypeId × Value → H} {P : Program} {W : World} {sp : Nat → Bool} {n : Nat}

theorem okWide_float {w : World} {r : Reach} {base : Nat} {t : TypeId} {v : Value} {k : FloatKind} (ht : P.underlying t = some (.float k)) (h : Value.okWide P w r base t v) : ∃ x, v = .float k x := by
  simp only [Value.okWide, ht, Cell.okWide, Cell.ok] at h
  cases v <;> simp_all

theorem arg_took (hl : laidOutB P = true) {base : Nat} {t : TypeId} {v : Value} {d : DataW H} {ps : List MemPlace} (hp : plainTy P n t = true) (hval : Value.okWide P W .any base t v) (hd : DataW.Trod enc P W 0 sp true t v d ps)
    (hw : ∀ y ∈ d.weights P t, y ≤ reachBytes) : ∃ a, FitsV P n t a ∧ RelV (ρ0 fun _ => False) old0 W a v := by
  obtain ⟨fuel, hf⟩ := hd
  obtain ⟨as, ⟨h1, h2, h3, h4⟩, h5⟩ := trod_took hl n fuel t v.cells.toList _ hp hf hw
  have one : v.cells = #[v] → (∀ a, FitsV P n t a ↔ Fits P n t [a]) → ∃ a, FitsV P n t a ∧ RelV (ρ0 fun _ => False) old0 W a v := by
    intro hc hi
    rw [hc] at h4
    cases as with
    | nil => simp only [RelL] at h4
    | cons a r =>
      cases r with
      | nil => simp only [RelL] at h4; exact ⟨a, (hi a).2 h1, h4.1⟩
      | cons b r => simp only [RelL] at h4; exact h4.2.elim
  cases n with
  | zero => simp [plainTy] at hp
  | succ n =>
    simp only [plainTy, Bool.and_eq_true, decide_eq_true_eq] at hp
    obtain ⟨hrow, hp⟩ := hp
    cases ht : P.underlying t with
    | none => rw [ht] at hp; cases hp
    | some k =>
      rw [ht] at hp
      cases k <;> first | (cases hp; done) | skip
      case bool => obtain ⟨b, rfl⟩ := okWide_bool ht hval; exact one rfl fun a => by simp only [FitsV, ht]
      case int k => obtain ⟨b, rfl⟩ := okWide_int ht hval; exact one rfl fun a => by simp only [FitsV, ht]
      case float k => obtain ⟨b, rfl⟩ := okWide_float ht hval; exact one rfl fun a => by simp only [FitsV, ht]
      case string => obtain ⟨b, rfl⟩ := okWide_string ht hval; exact one rfl fun a => by simp only [FitsV, ht]
      case slice e => obtain ⟨b, c, d, rfl⟩ := okWide_slice ht hval; exact one rfl fun a => by simp only [FitsV, ht]
      case struct fs =>
        obtain ⟨cs, rfl, _⟩ := okWide_struct ht hval
        exact ⟨.agg as, by simp only [FitsV, ht]; exact ⟨as, rfl, h1⟩, by simp only [RelV]; exact ⟨cs, rfl, h4⟩⟩
      case array m e =>
        simp only [Value.okWide, ht] at hval
        obtain ⟨cs, rfl, _⟩ := hval
        exact ⟨.agg as, by simp only [FitsV, ht]; exact ⟨as, rfl, h1⟩, by simp only [RelV]; exact ⟨cs, rfl, h4⟩⟩

theorem args_took (hl : laidOutB P = true) {base : Nat} : ∀ {ts : List TypeId} {vs : List Value} {ds : List (DataW H)} {ps : List MemPlace}, (ts.all fun t => plainTy P n t) = true →
    (∀ (j : Nat) t v, ts[j]? = some t → vs[j]? = some v → Value.okWide P W .any base t v) → DataW.TrodAll enc P W 0 sp true ts vs ds ps → (∀ y ∈ DataW.weightsEach P ts ds, y ≤ reachBytes) →
    ∃ as, FitsVs P n ts as ∧ RelL (ρ0 fun _ => False) old0 W as vs
  | [], vs, ds, ps, _, _, h, _ => by
    obtain ⟨rfl, rfl, rfl⟩ := trodAll_nil h
    exact ⟨[], by simp only [FitsVs], by simp only [RelL]⟩
  | t :: ts, vs, ds, ps, hp, hv, h, hw => by
    obtain ⟨v, vs, d, ds, p, q, rfl, rfl, rfl, h1, h2⟩ := trodAll_cons h
    simp only [List.all_cons, Bool.and_eq_true] at hp
    simp only [DataW.weightsEach, List.mem_append] at hw
    obtain ⟨a, k1, k2⟩ := arg_took hl hp.1 (hv 0 t v rfl rfl) h1 fun y hy => hw y (.inl hy)
    obtain ⟨as, k3, k4⟩ := args_took hl hp.2 (fun j t v h1 h2 => hv (j + 1) t v (by simpa using h1) (by simpa using h2)) h2 fun y hy => hw y (.inr hy)
    exact ⟨a :: as, by simp only [FitsVs]; exact ⟨k1, k3⟩, by simp only [RelL]; exact ⟨k2, k4⟩⟩

theorem args_stay (hl : laidOutB P = true) {W' : World} (hb : Below W.heap.size W W') : ∀ {ts : List TypeId} {vs : List Value} {ds : List (DataW H)} {ps : List MemPlace}, (ts.all fun t => P.readableRec t && decide (t < P.types.size)) = true →
    DataW.TrodAll enc P W 0 (fun _ => true) true ts vs ds ps → (∀ x ∈ ps, x.block < W.heap.size) → DataW.TrodAll enc P W' 0 (fun b => decide (b < W.heap.size)) true ts vs ds ps
  | [], vs, ds, ps, _, h, _ => by
    obtain ⟨rfl, rfl, rfl⟩ := trodAll_nil h
    exact trodAll_mk0
  | t :: ts, vs, ds, ps, hr, h, hlt => by
    obtain ⟨v, vs, d, ds, p, q, rfl, rfl, rfl, h1, h2⟩ := trodAll_cons h
    simp only [List.all_cons, Bool.and_eq_true, decide_eq_true_eq] at hr
    exact trodAll_cons_mk (Below.trod hl hr.1.1 hr.1.2 h1 hb fun x hx => hlt x (List.mem_append_left _ hx)) (args_stay hl hb hr.2 h2 fun x hx => hlt x (List.mem_append_right _ hx))
end

/-- THE ROW: whatever the arguments, the evaluator's answer is 'true'. -/
theorem law_lifted {C : Checked} {os : Os} {f : FuncId} {fn : Func} {s : ChangeSpec} {conds : List PathCond} {apart fresh handsOn : Bool} {H : Type} {enc : TypeId × Value → H} {n : Nat} {tb : TypeId}
    (own : ownKnob C.prog.godebug = none) (started : os.Started) (noInit : C.prog.inits.idxOf? f = none) (hfn : C.prog.funcs[f]? = some fn)
    (witness : ∃ (w : World) (tape : Tape) (i : Input), w.os = os ∧ (w.forCall tape i).Shaped C.prog ∧ i.vars = [] ∧ Input.okWide C.prog (w.forCall tape i) .any w.heap.size f i ∧
      s.pre6 enc C.prog fn conds apart (w.forCall tape i).memory i.args ∧ ({} : Assume).holds C.prog (lone (Frame.enter C.prog f i.args .normal) [] (w.forCall tape i)))
    (hl : laidOutB C.prog = true) (hplain : (fn.params.toList.all fun t => plainTy C.prog n t) = true) (hread : (fn.params.toList.all fun t => C.prog.readableRec t && decide (t < C.prog.types.size)) = true)
    (hvars : s.vars = []) (hspec : ∀ ds : List (DataW H), ds.length = fn.params.toList.length → s.fn H ds = ⟨[.lit (.bool true)], ds, []⟩)
    (hres : fn.resultTypes = #[tb]) (hbool : C.prog.underlying tb = some .bool)
    (hcall : ∀ (as : List AV) (W : World) (args : Array Value), FitsVs C.prog n fn.params.toList as → RelL (ρ0 fun _ => False) old0 W as args.toList → Calls C.prog f args W fun e w' => e = .returned (.bool true) ∧ Below W.heap.size W w') :
    ReturnsInHanded {} C os f .any (s.pre6 enc C.prog fn conds apart) (s.post enc C.prog fn apart fresh handsOn false) := by
  refine returnsInHanded_of_change_shaped own started noInit hfn witness ?_
  intro W base args ds gs before hval hW _ hwt _ _
  obtain ⟨p, q, hA, hV, hps, _, _⟩ := id hW
  rw [hvars] at hV
  obtain ⟨rfl, rfl⟩ := trodVars_none hV
  have hps' : before = p := by simpa using hps
  subst hps'
  have hlen : ∀ {ts : List TypeId} {vs : List Value} {ds : List (DataW H)} {ps : List MemPlace}, DataW.TrodAll enc C.prog W 0 (fun _ => true) true ts vs ds ps → ds.length = ts.length := by
    intro ts
    induction ts with
    | nil => intro vs ds ps h; obtain ⟨_, rfl, _⟩ := trodAll_nil h; rfl
    | cons t ts ih => intro vs ds ps h; obtain ⟨v, vs', d, ds', p, q, rfl, rfl, rfl, h1, h2⟩ := trodAll_cons h; simp [ih h2]
  have hvt : s.plain.varTypes C.prog = [] := by simp [ChangeSpec.plain, DataSpec.varTypes, hvars]
  have hw' : ∀ y ∈ DataW.weightsEach C.prog fn.params.toList ds, y ≤ reachBytes := by
    rw [hvt] at hwt
    simp only [List.append_nil] at hwt
    intro y hy
    simpa using List.all_eq_true.1 hwt y hy
  obtain ⟨as, hf, hr⟩ := args_took hl hplain (fun j t v h1 h2 => hval j t v (by simpa using h1) (by simpa using h2)) hA hw'
  refine (hcall as W args hf hr).mono ?_
  rintro e W' ⟨rfl, hb⟩
  have hs := hspec ds (hlen hA)
  refine ⟨_, rfl, ds, [], before, [], before, [], hW, ?_, ?_, ?_, hb.frame _, fun h => by cases h⟩
  · rw [List.append_nil, hs, hres]
    exact trodAll_mk1 (shut_bool hbool true)
  · rw [List.append_nil, hs]
    exact args_stay hl hb hread hA fun x hx => hW.lt x hx
  · rw [List.append_nil, hs, hvars]
    rfl

/-! ### what fits, taken apart -/
section
variable {P : Program} {n : Nat} {t : TypeId}
theorem fitsVs_cons {ts : List TypeId} {l : List AV} (h : FitsVs P n (t :: ts) l) : ∃ a r, l = a :: r ∧ FitsV P n t a ∧ FitsVs P n ts r := by
  cases l with
  | nil => simp only [FitsVs] at h
  | cons a r => simp only [FitsVs] at h; exact ⟨a, r, rfl, h.1, h.2⟩
theorem fitsVs_nil {l : List AV} (h : FitsVs P n [] l) : l = [] := by
  cases l with
  | nil => rfl
  | cons a r => simp only [FitsVs] at h
theorem fitsEach_cons {F : TypeId → List AV → Prop} {ts : List TypeId} {l : List (List AV)} (h : FitsEach F (t :: ts) l) : ∃ a r, l = a :: r ∧ F t a ∧ FitsEach F ts r := by
  cases l with
  | nil => simp only [FitsEach] at h
  | cons a r => simp only [FitsEach] at h; exact ⟨a, r, rfl, h.1, h.2⟩
theorem fitsEach_nil {F : TypeId → List AV → Prop} {l : List (List AV)} (h : FitsEach F [] l) : l = [] := by
  cases l with
  | nil => rfl
  | cons a r => simp only [FitsEach] at h
theorem fits_bool {cs : List AV} (hu : P.underlying t = some .bool) (h : Fits P (n + 1) t cs) : ∃ b, cs = [.v (.bool b)] := by simpa only [Fits, hu] using h
theorem fits_int {cs : List AV} {k : IntKind} (hu : P.underlying t = some (.int k)) (h : Fits P (n + 1) t cs) : ∃ x, cs = [.v (.int k x)] ∧ (Lit.int k x).wf = true := by simpa only [Fits, hu] using h
theorem fits_flt {cs : List AV} (hu : P.underlying t = some (.float .f64)) (h : Fits P (n + 1) t cs) : ∃ b, cs = [.flt (canon b)] ∧ b < 2 ^ 64 := by simpa only [Fits, hu] using h
theorem fits_str {cs : List AV} (hu : P.underlying t = some .string) (h : Fits P (n + 1) t cs) : ∃ s : ByteArray, cs = [.v (.string s)] ∧ s.size ≤ reachBytes := by simpa only [Fits, hu] using h
theorem fits_slice {cs : List AV} {e : TypeId} (hu : P.underlying t = some (.slice e)) (h : Fits P (n + 1) t cs) :
    cs = [.nils] ∨ ∃ els, cs = [.lst (P.cellsOf e) els] ∧ els.length * P.bytesOf e ≤ reachBytes ∧ ∀ el ∈ els, Fits P n e el := by simpa only [Fits, hu] using h
theorem fits_struct {cs : List AV} {fs : Array Field} (hu : P.underlying t = some (.struct fs)) (h : Fits P (n + 1) t cs) : ∃ parts, cs = parts.flatten ∧ FitsEach (Fits P n) (fs.toList.map (·.type)) parts := by simpa only [Fits, hu] using h
theorem fits_array {cs : List AV} {m : Nat} {e : TypeId} (hu : P.underlying t = some (.array m e)) (h : Fits P (n + 1) t cs) : ∃ parts, cs = parts.flatten ∧ FitsEach (Fits P n) (List.replicate m e) parts := by simpa only [Fits, hu] using h
theorem fitsV_struct {a : AV} {fs : Array Field} (hu : P.underlying t = some (.struct fs)) (h : FitsV P n t a) : ∃ cs, a = .agg cs ∧ Fits P n t cs := by simpa only [FitsV, hu] using h
theorem fitsV_array {a : AV} {m : Nat} {e : TypeId} (hu : P.underlying t = some (.array m e)) (h : FitsV P n t a) : ∃ cs, a = .agg cs ∧ Fits P n t cs := by simpa only [FitsV, hu] using h
theorem fitsV_bool {a : AV} (hu : P.underlying t = some .bool) (h : FitsV P n t a) : Fits P n t [a] := by simpa only [FitsV, hu] using h
theorem fitsV_int {a : AV} {k : IntKind} (hu : P.underlying t = some (.int k)) (h : FitsV P n t a) : Fits P n t [a] := by simpa only [FitsV, hu] using h
theorem fitsV_flt {a : AV} (hu : P.underlying t = some (.float .f64)) (h : FitsV P n t a) : Fits P n t [a] := by simpa only [FitsV, hu] using h
theorem fitsV_str {a : AV} (hu : P.underlying t = some .string) (h : FitsV P n t a) : Fits P n t [a] := by simpa only [FitsV, hu] using h
theorem fitsV_slice {a : AV} {e : TypeId} (hu : P.underlying t = some (.slice e)) (h : FitsV P n t a) : Fits P n t [a] := by simpa only [FitsV, hu] using h
theorem one_inj {a b : AV} (h : [a] = [b]) : a = b := (List.cons.inj h).1
end

/-- nothing is spoken for -/
theorem spec_none (P : Program) (fn : FuncId → Option FnM) (L : Nat) : SpecOk P ⟨fn, fun _ => none, L⟩ := fun f g h => by cases h
/-- one function more is spoken for: the evaluator itself vouches for it. -/
theorem spec_add {P : Program} {fn : FuncId → Option FnM} {spec : FuncId → Option (List AV → Option AV)} (hS : SpecOk P ⟨fn, spec, 0⟩) (hF : ∀ L, FnsOk P ⟨fn, spec, L⟩) (hm : P.follows .mixedOrders = true) (f0 : FuncId)
    (g0 : List AV → Option AV) (hi : FnIs P f0) (hg : ∀ avs r, g0 avs = some r → ∃ L k, den ⟨fn, spec, L⟩ k f0 avs = some r) : SpecOk P ⟨fn, fun f => if f = f0 then some g0 else spec f, 0⟩ := by
  intro f g h
  simp only at h
  split at h
  · rename_i hf
    cases h
    subst hf
    refine ⟨hi, fun avs r hr w cargs hrel => ?_⟩
    obtain ⟨L, k, hd⟩ := hg avs r hr
    unfold den at hd
    split at hd <;> first | (cases hd; done) | skip
    rename_i r0 H0 hrun
    split at hd <;> first | (cases hd; done) | skip
    rename_i hdis
    have hS' : SpecOk P ⟨fn, spec, L⟩ := hS
    have hnil : HRel w.heap.size (ρ0 fun _ => False) old0 w [] := ⟨fun s blk hg => by simp [Heap.get] at hg, fun s b z q e => by simp [ρ0] at e, fun s s' b z z' q q' e _ => by simp [ρ0] at e⟩
    refine ((runF_ok hS' (hF L) (fun C hC => draw_ok hm hC hS') k) _ _ _ _ _ _ _ hrun (Low.nil 0) w.heap.size _ _ w cargs hrel hnil (Nat.le_refl _) (fun q hq => hq.elim)).2.mono ?_
    rintro e w' ⟨u, ρ', old', he, k1, hu, hH, hb, hs, hav, hfr⟩
    exact ⟨r0, H0, ⟨u, ρ', old', he, k1, hu, hH, hb, fun q hq => (hs q hq).imp id fun _ => trivial, hav, hfr⟩, hdis, hd⟩
  · exact hS f g h

/-- a function that hands back plain values, by hand -/
theorem specPost_flat {w w' : World} {r : AV} {e : Ending} {u : Value} (he : e = .returned u) (hd : r.dry = true) (hr : RelV (ρ0 fun _ => False) old0 w' r u) (hb : Below w.heap.size w w') : SpecPost w r e w' := by
  have hnil : HRel w.heap.size (ρ0 fun _ => False) old0 w' [] := ⟨fun s blk hg => by simp [Heap.get] at hg, fun s b z q e => by simp [ρ0] at e, fun s s' b z z' q q' e _ => by simp [ρ0] at e⟩
  have hp : packT true 0 [] r = some r := by cases r <;> simp [AV.dry] at hd <;> rfl
  refine ⟨r, [], ⟨u, ρ0 fun _ => False, old0, he, ⟨fun b hlt hn => ⟨hb.block b hlt, hn⟩, fun _ _ _ _ e _ => e, fun _ h => h, fun _ _ _ _ e _ => by simp [ρ0] at e⟩, hr, hnil, hb, fun q hq => .inl hq, rfl, fun s _ hs => ⟨hs, rfl, fun b z st e => by simp [ρ0] at e⟩⟩, ?_, hp⟩
  rw [dry_refs r hd]; rfl
end Go.Proofs.Ytnccnmeecngopaa.Fw
