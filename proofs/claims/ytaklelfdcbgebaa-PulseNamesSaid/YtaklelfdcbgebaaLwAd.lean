/- Several functions spoken for at one level; loops by an invariant; lists. -/
import Derived.Test.YtaklelfdcbgebaaFwY
import Derived.Test.YtaklelfdcbgebaaFwAbs
import Derived.Test.YtaklelfdcbgebaaFwW
import Derived.Test.YtaklelfdcbgebaaFwGr
import Derived.KernelRfl
set_option maxRecDepth 100000
set_option maxHeartbeats 4000000
set_option linter.unusedSimpArgs false
set_option linter.unusedVariables false
namespace Go.Proofs.Ytaklelfdcbgebaa.Fw
open Go Go.RowKit
theorem spec_addz {P : Program} {fn : FuncId → Option FnM} {spec : FuncId → Option (List AV → Option AV)} (hS : SpecOk P ⟨fn, spec, 0⟩) (hF : ∀ L, FnsOk P ⟨fn, spec, L⟩) (hm : P.follows .mixedOrders = true) (δ : FuncId → Option (List AV → Option AV))
    (hd : ∀ f g, δ f = some g → FnIs P f ∧ ∀ avs r, g avs = some r → ∃ avs1 L k r1, All2 WiA avs avs1 ∧ den ⟨fn, spec, L⟩ k f avs1 = some r1 ∧ WkT r1 r) : SpecOk P ⟨fn, fun f => match δ f with | some g => some g | none => spec f, 0⟩ := by
  intro f g h
  simp only at h
  cases hq : δ f with
  | none => rw [hq] at h; exact hS f g h
  | some g' =>
    rw [hq] at h
    cases h
    obtain ⟨h1, h2⟩ := hd f g hq
    exact spec_add hS hF hm f g h1 h2 f g (by simp)
theorem toldZ {P : Prog} {f : FuncId} {avs : List AV} {r r1 : AV} {L k : Nat} (h : den ⟨P.fn, P.spec, L⟩ k f avs = some r1) (hw : WkT r1 r) : ∃ avs1 L k r1, All2 WiA avs avs1 ∧ den ⟨P.fn, P.spec, L⟩ k f avs1 = some r1 ∧ WkT r1 r :=
  ⟨avs, L, k, r1, all2_refl WiA.refl _, h, hw⟩
theorem cutM {α : Type} {f : α → List AV} {zs : List α} {m : Nat} : cutX (zs.map f) 0 m = (zs.take m).map f := by
  show List.take _ _ = _
  rw [List.map_take]
end Go.Proofs.Ytaklelfdcbgebaa.Fw
