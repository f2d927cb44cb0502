/- The abstract evaluator, part Sx: laws by which its runs over unknown numbers are written out. -/
import Derived.Test.YtnccnmeecngopaaFwX
set_option linter.unusedVariables false
set_option linter.unusedSimpArgs false
set_option linter.unnecessarySimpa false
namespace Go.Proofs.Ytnccnmeecngopaa.Fw
open Go Go.RowKit

/-- the body of a loop, not to be written out -/
def bodyOf (P : Prog) (C : Caller) (d : Nat) (b : MC) (π : List Nat) (s : St) : Option (Ex × St) := evC P C d b π s

/-- a loop, from a round's pruned state on -/
def LP (body : List Nat → St → Option (Ex × St)) (d : Nat) (live : List Nat) (π : List Nat) : Nat → Nat → St → Option (Ex × St)
  | 0, j, A => match body (j :: π) A with | some (.nrm, _) => none | r => r
  | n + 1, j, A => match body (j :: π) A with | some (.nrm, s) => LP body d live π n (j + 1) (prune d live s) | r => r

theorem evLoop_LP (body : List Nat → St → Option (Ex × St)) (d : Nat) (live : List Nat) (π : List Nat) : ∀ (n j : Nat) (s : St), evLoop body d live π (n + 1) j s = LP body d live π n j (prune d live s)
  | 0, j, s => by
    simp only [evLoop, LP]
    split <;> simp_all
  | n + 1, j, s => by
    rw [evLoop, LP]
    split
    · rename_i s' h
      rw [h]
      exact evLoop_LP body d live π n (j + 1) s'
    · rename_i h
      split
      · rename_i s' h'
        exact absurd h' (h s')
      · rfl

/-- what a function hands back when its body has ended -/
def runOut (r : Option (Ex × St)) (res : List RV) : Option (AV × Heap) :=
  match r with
  | some (.nrm, s) => (match resOf s res with | some r => some (r, s.H) | none => none)
  | some (.ret, s) => (match resOf s res with | some r => some (r, s.H) | none => none)
  | _ => none

section
variable {fn : FuncId → Option FnM} {spec : FuncId → Option (List AV → Option AV)} {L : Nat} {C : Caller} {d : Nat} {π : List Nat} {s : St} {P : Prog}
theorem evC_skip : evC P C d .skip π s = some (.nrm, s) := by simp only [evC]
theorem evC_ops (l : List MO) : evC P C d (.ops l false) π s = match evOps P C d π l s with | some s => some (.nrm, s) | none => none := by
  simp only [evC]; cases evOps P C d π l s <;> rfl
theorem evC_draw (l : List MO) : evC P C d (.ops l true) π s = match evDraw P C d π l s with | some s => some (.nrm, s) | none => none := by
  simp only [evC]; cases evDraw P C d π l s <;> rfl
theorem evC_seq (a b : MC) : evC P C d (.seq a b) π s = match evC P C d a π s with | some (.nrm, s) => evC P C d b π s | some (.exit i, s) => some (.exit i, s) | some (.ret, s) => some (.ret, s) | none => none := by
  simp only [evC]
  split <;> rename_i h <;> (try simp only [h])
  split <;> simp_all
theorem evC_cond (c : Opd) (a b : MC) : evC P C d (.cond c a b) π s = match c.ev s.env with | .v (.bool t) => if t = true then evC P C d a π s else evC P C d b π s | _ => none := by
  simp only [evC]
  split
  · rename_i h; simp only [h, if_true]
  · rename_i h; simp only [h, Bool.false_eq_true, if_false]
  · rename_i h1 h2
    split
    · rename_i t h
      cases t with
      | true => exact absurd h h1
      | false => exact absurd h h2
    · rfl
theorem evC_block (id : Nat) (b : MC) : evC P C d (.block id b) π s = match evC P C d b π s with | some (.exit i, s) => if i = id then some (.nrm, s) else some (.exit i, s) | some (.nrm, s) => some (.nrm, s) | some (.ret, s) => some (.ret, s) | none => none := by
  simp only [evC]
  split <;> rename_i h <;> (try simp only [h])
  split <;> simp_all
theorem evC_loop (live : List Nat) (b : MC) : evC ⟨fn, spec, L + 1⟩ C d (.loop live b) π s = match LP (bodyOf ⟨fn, spec, L + 1⟩ C d b) d live (s.k :: π) L 0 (prune d live s) with | some (x, s') => some (x, ⟨s'.env, s'.H, s.k + 1⟩) | none => none := by
  simp only [evC]
  rw [show evC ⟨fn, spec, L + 1⟩ C d b = bodyOf ⟨fn, spec, L + 1⟩ C d b from rfl, evLoop_LP]
  rfl
theorem evC_exit (i : Nat) : evC P C d (.exit i) π s = some (.exit i, s) := by simp only [evC]
theorem evC_ret : evC P C d .ret π s = some (.ret, s) := by simp only [evC]

/-- a loop: rounds that go on, and one that does not -/
theorem LP_run {body : List Nat → St → Option (Ex × St)} {live : List Nat} (A : Nat → St) : ∀ (n : Nat) {L j : Nat} {x : Ex} {s' : St}, n ≤ L →
    (∀ i, i < n → ∃ s1, body ((j + i) :: π) (A i) = some (.nrm, s1) ∧ prune d live s1 = A (i + 1)) → body ((j + n) :: π) (A n) = some (x, s') → x ≠ .nrm → LP body d live π L j (A 0) = some (x, s')
  | 0, L, j, x, s', _, _, he, hx => by
    simp only [Nat.add_zero] at he
    cases L <;> simp only [LP, he] <;> cases x <;> first | rfl | exact absurd rfl hx
  | n + 1, 0, j, x, s', hn, _, _, _ => by omega
  | n + 1, L + 1, j, x, s', hn, h, he, hx => by
    obtain ⟨s1, h1, h2⟩ := h 0 (by omega)
    simp only [Nat.add_zero] at h1
    simp only [LP, h1, h2]
    refine LP_run (fun i => A (i + 1)) n (by omega) (fun i hi => ?_) ?_ hx
    · obtain ⟨s2, h3, h4⟩ := h (i + 1) (by omega)
      exact ⟨s2, by rw [show j + 1 + i = j + (i + 1) by omega]; exact h3, h4⟩
    · rw [show j + 1 + n = j + (n + 1) by omega]; exact he

/-- a round that goes on, pruned -/
def nxt (d : Nat) (live : List Nat) (r : Option (Ex × St)) : Option St := match r with | some (.nrm, s) => some (prune d live s) | _ => none
theorem LP_go {body : List Nat → St → Option (Ex × St)} {live : List Nat} (A : Nat → St) (n : Nat) {L j : Nat} {x : Ex} {s' : St} (hn : n ≤ L)
    (h : ∀ i, i < n → nxt d live (body ((j + i) :: π) (A i)) = some (A (i + 1))) (he : body ((j + n) :: π) (A n) = some (x, s')) (hx : x ≠ .nrm) : LP body d live π L j (A 0) = some (x, s') := by
  refine LP_run A n hn (fun i hi => ?_) he hx
  have := h i hi
  unfold nxt at this
  split at this
  · rename_i s1 h1; exact ⟨s1, h1, Option.some.inj this⟩
  · cases this

/-- a loop, by what holds at each round's head -/
theorem LP_inv {body : List Nat → St → Option (Ex × St)} {live : List Nat} (Inv : Nat → St → Prop) (Post : St → Prop) {x : Ex} (hx : x ≠ .nrm) : ∀ (n : Nat) {L j : Nat} {A : St}, n ≤ L → Inv j A →
    (∀ i s, j ≤ i → i < j + n → Inv i s → ∃ s', nxt d live (body (i :: π) s) = some s' ∧ Inv (i + 1) s') → (∀ s, Inv (j + n) s → ∃ s', body ((j + n) :: π) s = some (x, s') ∧ Post s') → ∃ s', LP body d live π L j A = some (x, s') ∧ Post s'
  | 0, L, j, A, _, hA, _, he => by
    obtain ⟨s', h1, h2⟩ := he A (by simpa using hA)
    simp only [Nat.add_zero] at h1
    refine ⟨s', ?_, h2⟩
    cases L <;> simp only [LP, h1] <;> cases x <;> first | rfl | exact absurd rfl hx
  | n + 1, 0, j, A, hn, _, _, _ => by omega
  | n + 1, L + 1, j, A, hn, hA, h, he => by
    obtain ⟨s1, h1, h2⟩ := h j A (Nat.le_refl _) (by omega) hA
    unfold nxt at h1
    split at h1
    · rename_i s0 hb
      cases h1
      simp only [LP, hb]
      refine LP_inv Inv Post hx n (by omega) h2 (fun i s hi hlt hI => h i s (by omega) (by omega) hI) fun s hI => ?_
      rw [show j + 1 + n = j + (n + 1) by omega] at hI ⊢
      exact he s hI
    · cases h1

/-! operators, one by one -/
def iand (k : IntKind) (a b : Int) : Int := k.wrap ((BitVec.ofInt k.bits a &&& BitVec.ofInt k.bits b).toNat)
def ior (k : IntKind) (a b : Int) : Int := k.wrap ((BitVec.ofInt k.bits a ||| BitVec.ofInt k.bits b).toNat)
def ixor (k : IntKind) (a b : Int) : Int := k.wrap ((BitVec.ofInt k.bits a ^^^ BitVec.ofInt k.bits b).toNat)
def iandNot (k : IntKind) (a b : Int) : Int := k.wrap ((BitVec.ofInt k.bits a &&& ~~~ BitVec.ofInt k.bits b).toNat)
theorem iadd_def {k : IntKind} {a b : Int} : intBin .add k a b = some (.int k (k.wrap (a + b))) := rfl
theorem isub_def {k : IntKind} {a b : Int} : intBin .sub k a b = some (.int k (k.wrap (a - b))) := rfl
theorem imul_def {k : IntKind} {a b : Int} : intBin .mul k a b = some (.int k (k.wrap (a * b))) := rfl
theorem iquo_def {k : IntKind} {a b : Int} : intBin .quo k a b = if b = 0 then none else some (.int k (k.wrap (a.tdiv b))) := rfl
theorem irem_def {k : IntKind} {a b : Int} : intBin .rem k a b = if b = 0 then none else some (.int k (a.tmod b)) := rfl
theorem iand_def {k : IntKind} {a b : Int} : intBin .and k a b = some (.int k (iand k a b)) := rfl
theorem ior_def {k : IntKind} {a b : Int} : intBin .or k a b = some (.int k (ior k a b)) := rfl
theorem ixor_def {k : IntKind} {a b : Int} : intBin .xor k a b = some (.int k (ixor k a b)) := rfl
theorem iandNot_def {k : IntKind} {a b : Int} : intBin .andNot k a b = some (.int k (iandNot k a b)) := rfl
theorem ieql_def {k : IntKind} {a b : Int} : intBin .eql k a b = some (.bool (decide (a = b))) := rfl
theorem ineq_def {k : IntKind} {a b : Int} : intBin .neq k a b = some (.bool (!decide (a = b))) := rfl
theorem ilss_def {k : IntKind} {a b : Int} : intBin .lss k a b = some (.bool (decide (a < b))) := rfl
theorem ileq_def {k : IntKind} {a b : Int} : intBin .leq k a b = some (.bool (decide (a ≤ b))) := rfl
theorem igtr_def {k : IntKind} {a b : Int} : intBin .gtr k a b = some (.bool (decide (b < a))) := rfl
theorem igeq_def {k : IntKind} {a b : Int} : intBin .geq k a b = some (.bool (decide (b ≤ a))) := rfl
theorem wrap_id {n : Int} (h : -9223372036854775808 ≤ n ∧ n ≤ 9223372036854775807) : IntKind.wrap .i64 n = n := by
  simp [IntKind.wrap, IntKind.signed, IntKind.bits]
  (try split) <;> omega
theorem iand_mask {q : Int} {m : Nat} (hm : m < 64) : iand .i64 q ((2 ^ m - 1 : Nat) : Int) = q % 2 ^ m := by
  have h1 : (BitVec.ofInt 64 q &&& BitVec.ofInt 64 ((2 ^ m - 1 : Nat) : Int)).toNat = (q % 2 ^ m).toNat := by
    have hlt : 2 ^ m ≤ 2 ^ 63 := Nat.pow_le_pow_right (by decide) (by omega)
    have e0 : BitVec.ofInt 64 ((2 ^ m - 1 : Nat) : Int) = BitVec.ofNat 64 (2 ^ m - 1) := by simp
    rw [e0, BitVec.toNat_and, BitVec.toNat_ofNat, BitVec.toNat_ofInt, Nat.mod_eq_of_lt (by omega), Nat.and_two_pow_sub_one_eq_mod]
    have hd : ((2 ^ m : Nat) : Int) ∣ ((2 ^ 64 : Nat) : Int) := Int.natCast_dvd_natCast.2 (Nat.pow_dvd_pow 2 (by omega))
    have h3 : 0 ≤ q % ((2 ^ 64 : Nat) : Int) := Int.emod_nonneg _ (by decide)
    have h4 : (0 : Int) ≤ q % 2 ^ m := Int.emod_nonneg _ (by have : (0 : Int) < 2 ^ m := Int.pow_pos (by decide); omega)
    have h5 : (((q % ((2 ^ 64 : Nat) : Int)).toNat % 2 ^ m : Nat) : Int) = q % 2 ^ m := by
      rw [Int.natCast_emod, Int.toNat_of_nonneg h3, Int.emod_emod_of_dvd _ hd]
      simp
    omega
  have h2 : (0 : Int) ≤ q % 2 ^ m := Int.emod_nonneg _ (by have : (0 : Int) < 2 ^ m := Int.pow_pos (by decide); omega)
  have h6 : q % 2 ^ m < 2 ^ 63 := Int.lt_of_lt_of_le (Int.emod_lt_of_pos _ (Int.pow_pos (by decide))) (by exact_mod_cast Nat.pow_le_pow_right (by decide : 0 < 2) (by omega : m ≤ 63))
  show IntKind.wrap .i64 ((BitVec.ofInt 64 q &&& BitVec.ofInt 64 ((2 ^ m - 1 : Nat) : Int)).toNat : Int) = _
  rw [h1, Int.toNat_of_nonneg h2]
  exact wrap_id (by omega)

/-- a call by values -/
theorem callIn_den {n t : Nat} {st : List Nat} {f : FuncId} {args : List AV} {H : Heap} (hs : P.spec f = none) :
    callIn P (runF P n) false d t st f args H = match optList (freeze H 8) args with | none => none | some avs => match den P n f avs with | some r => some (thawT d t st H r) | none => none := by
  unfold callIn den
  simp only [hs, Bool.false_eq_true, if_false]
  cases optList (freeze H 8) args with
  | none => rfl
  | some avs =>
    simp only
    cases runF P n 0 [] f avs [] with
    | none => rfl
    | some x =>
      obtain ⟨r, H1⟩ := x
      simp only
      by_cases hd : distinct r.refs = true
      · simp only [hd, if_true]
        cases packT true 0 H1 r <;> rfl
      · simp only [hd, if_false]
        rfl
theorem callIn_spec {inl : Bool} {t : Nat} {st : List Nat} {f : FuncId} {args : List AV} {H : Heap} {g : List AV → Option AV} (hs : P.spec f = some g) :
    callIn P C inl d t st f args H = match optList (freeze H 8) args with | none => none | some avs => match g avs with | some r => if r.refs.isEmpty = true then some (thawT d t st H r) else none | none => none := by
  unfold callIn
  simp only [hs]
  cases optList (freeze H 8) args with
  | none => rfl
  | some avs => simp only; cases g avs <;> rfl
theorem runF_fn {n : Nat} {f : FuncId} {args : List AV} {H : Heap} {fm : FnM} (hf : P.fn f = some fm) :
    runF P (n + 1) d π f args H = runOut (evC P (runF P n) d fm.code π ⟨argEnv 0 args, H, 0⟩) fm.res := by
  unfold runOut
  simp only [runF, hf]
  cases evC P (runF P n) d fm.code π ⟨argEnv 0 args, H, 0⟩ with
  | none => rfl
  | some x =>
    obtain ⟨x, s⟩ := x
    cases x with
    | nrm => simp only; cases resOf s fm.res <;> rfl
    | ret => simp only; cases resOf s fm.res <;> rfl
    | exit i => rfl
end
end Go.Proofs.Ytnccnmeecngopaa.Fw
