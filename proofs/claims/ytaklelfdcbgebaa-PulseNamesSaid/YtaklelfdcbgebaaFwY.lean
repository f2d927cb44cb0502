/- Each small code is what 'compFn' gives. Written by gen.py. -/
import Derived.Test.YtaklelfdcbgebaaFwZ
import Derived.Test.YtaklelfdcbgebaaFwW
import Derived.Test.YtaklelfdcbgebaaRows
import Derived.Test.YtaklelfdcbgebaaProg
import Derived.KernelRfl
set_option maxRecDepth 100000
namespace Go.Proofs.Ytaklelfdcbgebaa.Fw
open Go Go.Proofs
theorem ok7 : compFn Try.prog false [(5, some 2, 1, true), (7, some 2, 1, true), (13, some 2, 1, true), (14, some 2, 1, true), (19, none, 1, true), (19, some 0, 1, true), (20, some 2, 1, true), (21, some 2, 1, true)] Try.f7 = some m7 := by kernel_rfl
theorem ok13 : compFn Try.prog false [] Try.f13 = some m13 := by kernel_rfl
theorem ok14 : compFn Try.prog false [] Try.f14 = some m14 := by kernel_rfl
theorem ok15 : compFn Try.prog false [] Try.f15 = some m15 := by kernel_rfl
theorem ok17 : compFn Try.prog false [(2, none, 1, true), (2, some 0, 1, true), (3, none, 1, true), (3, some 0, 1, true)] Try.f17 = some m17 := by kernel_rfl
theorem ok18 : compFn Try.prog false [(4, none, 1, true), (4, some 0, 1, true), (8, none, 1, true), (8, some 0, 1, true)] Try.f18 = some m18 := by kernel_rfl
theorem ok20 : compFn Try.prog false [] Try.f20 = some m20 := by kernel_rfl
theorem ok21 : compFn Try.prog false [(4, some 2, 1, true), (8, none, 1, true), (8, some 0, 1, true)] Try.f21 = some m21 := by kernel_rfl
theorem ok24 : compFn Try.prog false [(2, some 2, 1, true), (5, none, 1, true), (5, some 0, 1, true)] Try.f24 = some m24 := by kernel_rfl
theorem ok25 : compFn Try.prog false [(2, some 2, 1, true), (5, none, 1, true), (5, some 0, 1, true)] Try.f25 = some m25 := by kernel_rfl
theorem ok26 : compFn Try.prog false [(4, some 2, 1, true), (8, none, 1, true), (8, some 0, 1, true)] Try.f26 = some m26 := by kernel_rfl
theorem ok27 : compFn Try.prog false [(4, some 2, 1, true), (7, none, 1, true), (7, some 0, 1, true)] Try.f27 = some m27 := by kernel_rfl
theorem ok28 : compFn Try.prog false [] Try.f28 = some m28 := by kernel_rfl
theorem ok29 : compFn Try.prog false [] Try.f29 = some m29 := by kernel_rfl
theorem ok31 : compFn Try.prog false [(1, some 2, 1, true), (3, none, 1, true), (3, some 0, 1, true), (7, none, 2, true), (7, some 0, 2, true)] Try.f31 = some m31 := by kernel_rfl
theorem ok34 : compFn Try.prog false [(8, none, 2, true), (8, some 0, 2, true), (11, none, 2, true), (11, some 0, 2, true)] Try.f34 = some m34 := by kernel_rfl
theorem ok35 : compFn Try.prog false [(4, none, 2, true), (4, some 0, 2, true), (5, none, 2, true), (5, some 0, 2, true)] Try.f35 = some m35 := by kernel_rfl
theorem ok36 : compFn Try.prog false [] Try.f36 = some m36 := by kernel_rfl
theorem ok38 : compFn Try.prog false [] Try.f38 = some m38 := by kernel_rfl
theorem ok39 : compFn Try.prog false [] Try.f39 = some m39 := by kernel_rfl
theorem ok40 : compFn Try.prog true [] Try.f40 = some m40 := by kernel_rfl
theorem ok41 : compFn Try.prog false [] Try.f41 = some m41 := by kernel_rfl
theorem ok42 : compFn Try.prog false [] Try.f42 = some m42 := by kernel_rfl
theorem ok43 : compFn Try.prog false [] Try.f43 = some m43 := by kernel_rfl
theorem ok44 : compFn Try.prog false [] Try.f44 = some m44 := by kernel_rfl
theorem ok45 : compFn Try.prog false [(2, none, 1, true), (2, some 0, 1, true)] Try.f45 = some m45 := by kernel_rfl
theorem ok46 : compFn Try.prog false [(2, none, 1, true), (2, some 0, 1, true)] Try.f46 = some m46 := by kernel_rfl
theorem ok47 : compFn Try.prog false [] Try.f47 = some m47 := by kernel_rfl
theorem ok48 : compFn Try.prog false [(2, none, 1, true), (2, some 0, 1, true), (4, none, 1, true), (4, some 0, 1, true)] Try.f48 = some m48 := by kernel_rfl
theorem ok49 : compFn Try.prog false [(2, none, 1, true), (2, some 0, 1, true)] Try.f49 = some m49 := by kernel_rfl
theorem ok53 : compFn Try.prog false [] Try.f53 = some m53 := by kernel_rfl
theorem ok54 : compFn Try.prog false [] Try.f54 = some m54 := by kernel_rfl
theorem ok55 : compFn Try.prog false [] Try.f55 = some m55 := by kernel_rfl
theorem ok56 : compFn Try.prog false [] Try.f56 = some m56 := by kernel_rfl
theorem ok57 : compFn Try.prog false [] Try.f57 = some m57 := by kernel_rfl
section
variable {sp : FuncId → Option (List AV → Option AV)} {L n d : Nat} {π : List Nat} {args : List AV} {H : Heap}
end
theorem fnsOk (spec : FuncId → Option (List AV → Option AV)) (L : Nat) : FnsOk Try.prog ⟨fnOf, spec, L⟩ := by
  intro f fm h
  simp only [fnOf] at h
  split at h
  · cases h; exact ⟨_, Try.func7, ne_of_beq_false (by kernel_rfl), ok7⟩
  · cases h; exact ⟨_, Try.func13, ne_of_beq_false (by kernel_rfl), ok13⟩
  · cases h; exact ⟨_, Try.func14, ne_of_beq_false (by kernel_rfl), ok14⟩
  · cases h; exact ⟨_, Try.func15, ne_of_beq_false (by kernel_rfl), ok15⟩
  · cases h; exact ⟨_, Try.func17, ne_of_beq_false (by kernel_rfl), ok17⟩
  · cases h; exact ⟨_, Try.func18, ne_of_beq_false (by kernel_rfl), ok18⟩
  · cases h; exact ⟨_, Try.func20, ne_of_beq_false (by kernel_rfl), ok20⟩
  · cases h; exact ⟨_, Try.func21, ne_of_beq_false (by kernel_rfl), ok21⟩
  · cases h; exact ⟨_, Try.func24, ne_of_beq_false (by kernel_rfl), ok24⟩
  · cases h; exact ⟨_, Try.func25, ne_of_beq_false (by kernel_rfl), ok25⟩
  · cases h; exact ⟨_, Try.func26, ne_of_beq_false (by kernel_rfl), ok26⟩
  · cases h; exact ⟨_, Try.func27, ne_of_beq_false (by kernel_rfl), ok27⟩
  · cases h; exact ⟨_, Try.func28, ne_of_beq_false (by kernel_rfl), ok28⟩
  · cases h; exact ⟨_, Try.func29, ne_of_beq_false (by kernel_rfl), ok29⟩
  · cases h; exact ⟨_, Try.func31, ne_of_beq_false (by kernel_rfl), ok31⟩
  · cases h; exact ⟨_, Try.func34, ne_of_beq_false (by kernel_rfl), ok34⟩
  · cases h; exact ⟨_, Try.func35, ne_of_beq_false (by kernel_rfl), ok35⟩
  · cases h; exact ⟨_, Try.func36, ne_of_beq_false (by kernel_rfl), ok36⟩
  · cases h; exact ⟨_, Try.func38, ne_of_beq_false (by kernel_rfl), ok38⟩
  · cases h; exact ⟨_, Try.func39, ne_of_beq_false (by kernel_rfl), ok39⟩
  · cases h; exact ⟨_, Try.func40, ne_of_beq_false (by kernel_rfl), ok40⟩
  · cases h; exact ⟨_, Try.func41, ne_of_beq_false (by kernel_rfl), ok41⟩
  · cases h; exact ⟨_, Try.func42, ne_of_beq_false (by kernel_rfl), ok42⟩
  · cases h; exact ⟨_, Try.func43, ne_of_beq_false (by kernel_rfl), ok43⟩
  · cases h; exact ⟨_, Try.func44, ne_of_beq_false (by kernel_rfl), ok44⟩
  · cases h; exact ⟨_, Try.func45, ne_of_beq_false (by kernel_rfl), ok45⟩
  · cases h; exact ⟨_, Try.func46, ne_of_beq_false (by kernel_rfl), ok46⟩
  · cases h; exact ⟨_, Try.func47, ne_of_beq_false (by kernel_rfl), ok47⟩
  · cases h; exact ⟨_, Try.func48, ne_of_beq_false (by kernel_rfl), ok48⟩
  · cases h; exact ⟨_, Try.func49, ne_of_beq_false (by kernel_rfl), ok49⟩
  · cases h; exact ⟨_, Try.func53, ne_of_beq_false (by kernel_rfl), ok53⟩
  · cases h; exact ⟨_, Try.func54, ne_of_beq_false (by kernel_rfl), ok54⟩
  · cases h; exact ⟨_, Try.func55, ne_of_beq_false (by kernel_rfl), ok55⟩
  · cases h; exact ⟨_, Try.func56, ne_of_beq_false (by kernel_rfl), ok56⟩
  · cases h; exact ⟨_, Try.func57, ne_of_beq_false (by kernel_rfl), ok57⟩
  · cases h
theorem follows : Try.prog.follows .mixedOrders = true := by kernel_rfl
theorem laidOut : laidOutB Try.prog = true := by kernel_rfl
theorem own : ownKnob Try.prog.godebug = none := by kernel_rfl
/-- what the evaluator answers, the program answers -/
theorem law {spec : FuncId → Option (List AV → Option AV)} {L k : Nat} {f : FuncId} {avs : List AV} {x : Value} (hS : SpecOk Try.prog ⟨fnOf, spec, L⟩) (h : den ⟨fnOf, spec, L⟩ k f avs = some (.v x)) {W : World} {args : Array Value} (hr : RelL (ρ0 fun _ => False) old0 W avs args.toList) :
    Calls Try.prog f args W fun e w' => e = .returned x ∧ RowKit.Below W.heap.size W w' :=
  den_calls hS (fnsOk _ _) (fun _ hC => draw_ok follows hC hS) h hr
end Go.Proofs.Ytaklelfdcbgebaa.Fw
