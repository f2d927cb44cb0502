/- Each small code is what 'compFn' gives. Written by gen.py. -/
import Derived.Test.YtnphdnokedhhkaaFwZ
import Derived.Test.YtnphdnokedhhkaaFwW
import Derived.Test.YtnphdnokedhhkaaRows
import Derived.Test.YtnphdnokedhhkaaProg
import Derived.KernelRfl
set_option maxRecDepth 100000
namespace Go.Proofs.Ytnphdnokedhhkaa.Fw
open Go Go.Proofs
theorem ok3 : compFn Try.prog false [(5, some 2, 1, true), (5, some 3, 1, true), (6, some 2, 1, true), (6, some 3, 1, true), (7, some 2, 1, true), (7, some 3, 1, true), (9, some 2, 1, true), (9, some 3, 1, true)] Try.f3 = some m3 := by kernel_rfl
theorem ok4 : compFn Try.prog false [(15, some 2, 1, true), (15, some 3, 1, true), (16, none, 1, true), (16, some 0, 1, true), (17, none, 1, true), (17, some 0, 1, true), (18, none, 1, true), (18, some 0, 1, true), (19, none, 1, true), (19, some 0, 1, true), (21, none, 1, true), (21, some 0, 1, true), (22, none, 1, true), (22, some 0, 1, true), (23, none, 1, true), (23, some 0, 1, true), (25, none, 1, true), (25, some 0, 1, true), (27, none, 1, true), (27, some 0, 1, true)] Try.f4 = some m4 := by kernel_rfl
theorem ok8 : compFn Try.prog false [(7, some 2, 1, true), (7, some 3, 1, true), (8, none, 1, true), (8, some 0, 1, true), (10, none, 4, true), (10, some 0, 4, true), (12, none, 2, true), (12, some 0, 2, true), (14, none, 2, true), (14, some 0, 2, true), (16, none, 1, true), (16, some 0, 1, true), (20, none, 2, true), (20, some 0, 2, true)] Try.f8 = some m8 := by kernel_rfl
theorem ok13 : compFn Try.prog false [(2, some 2, 1, true), (2, some 3, 1, true), (3, some 2, 1, true), (3, some 3, 1, true)] Try.f13 = some m13 := by kernel_rfl
theorem ok14 : compFn Try.prog false [(4, some 2, 1, true), (4, some 3, 1, true), (8, none, 1, true), (8, some 0, 1, true)] Try.f14 = some m14 := by kernel_rfl
theorem ok15 : compFn Try.prog false [(4, some 2, 1, true), (4, some 3, 1, true), (7, some 2, 1, true), (7, some 3, 1, true)] Try.f15 = some m15 := by kernel_rfl
theorem ok16 : compFn Try.prog false [] Try.f16 = some m16 := by kernel_rfl
theorem ok17 : compFn Try.prog true [] Try.f17 = some m17 := by kernel_rfl
theorem ok18 : compFn Try.prog false [(4, none, 1, true), (4, some 0, 1, true), (5, none, 1, true), (5, some 0, 1, true)] Try.f18 = some m18 := by kernel_rfl
theorem ok19 : compFn Try.prog false [(8, none, 1, true), (8, some 0, 1, true), (11, none, 1, true), (11, some 0, 1, true)] Try.f19 = some m19 := by kernel_rfl
theorem ok20 : compFn Try.prog false [(8, none, 1, true), (8, some 0, 1, true), (11, none, 1, true), (11, some 0, 1, true)] Try.f20 = some m20 := by kernel_rfl
theorem ok21 : compFn Try.prog false [] Try.f21 = some m21 := by kernel_rfl
theorem ok22 : compFn Try.prog false [] Try.f22 = some m22 := by kernel_rfl
theorem ok23 : compFn Try.prog false [] Try.f23 = some m23 := by kernel_rfl
theorem ok24 : compFn Try.prog false [] Try.f24 = some m24 := by kernel_rfl
theorem ok30 : compFn Try.prog false [(2, none, 4, true), (2, some 0, 4, true), (3, none, 4, true), (3, some 0, 4, true)] Try.f30 = some m30 := by kernel_rfl
theorem ok31 : compFn Try.prog false [(12, none, 2, true), (12, some 0, 2, true), (14, none, 1, true), (14, some 0, 1, true), (20, none, 2, true), (20, some 0, 2, true)] Try.f31 = some m31 := by kernel_rfl
theorem ok32 : compFn Try.prog false [(12, none, 2, true), (12, some 0, 2, true), (14, none, 1, true), (14, some 0, 1, true), (18, none, 2, true), (18, some 0, 2, true)] Try.f32 = some m32 := by kernel_rfl
theorem ok33 : compFn Try.prog false [] Try.f33 = some m33 := by kernel_rfl
theorem ok34 : compFn Try.prog false [] Try.f34 = some m34 := by kernel_rfl
theorem ok35 : compFn Try.prog false [(1, some 2, 1, true), (1, some 3, 1, true), (2, none, 1, true), (2, some 0, 1, true), (4, none, 1, true), (4, some 0, 1, true), (6, none, 2, true), (6, some 0, 2, true)] Try.f35 = some m35 := by kernel_rfl
theorem ok37 : compFn Try.prog false [(2, some 2, 1, true), (2, some 3, 1, true), (3, some 2, 1, true), (3, some 3, 1, true)] Try.f37 = some m37 := by kernel_rfl
theorem ok38 : compFn Try.prog false [(8, none, 1, true), (8, some 0, 1, true), (9, none, 1, true), (9, some 0, 1, true)] Try.f38 = some m38 := by kernel_rfl
theorem ok39 : compFn Try.prog false [] Try.f39 = some m39 := by kernel_rfl
theorem ok40 : compFn Try.prog true [] Try.f40 = some m40 := by kernel_rfl
theorem ok41 : compFn Try.prog false [] Try.f41 = some m41 := by kernel_rfl
theorem ok42 : compFn Try.prog false [] Try.f42 = some m42 := by kernel_rfl
theorem ok43 : compFn Try.prog false [] Try.f43 = some m43 := by kernel_rfl
theorem ok44 : compFn Try.prog false [] Try.f44 = some m44 := by kernel_rfl
theorem ok45 : compFn Try.prog false [] Try.f45 = some m45 := by kernel_rfl
theorem ok46 : compFn Try.prog false [] Try.f46 = some m46 := by kernel_rfl
theorem ok51 : compFn Try.prog false [] Try.f51 = some m51 := by kernel_rfl
theorem ok52 : compFn Try.prog false [] Try.f52 = some m52 := by kernel_rfl
theorem ok53 : compFn Try.prog false [] Try.f53 = some m53 := by kernel_rfl
theorem ok54 : compFn Try.prog false [] Try.f54 = some m54 := by kernel_rfl
theorem ok55 : compFn Try.prog false [(4, none, 1, true), (4, some 0, 1, true), (6, none, 1, true), (6, some 0, 1, true)] Try.f55 = some m55 := by kernel_rfl
theorem ok56 : compFn Try.prog false [] Try.f56 = some m56 := by kernel_rfl
theorem ok57 : compFn Try.prog false [] Try.f57 = some m57 := by kernel_rfl
theorem ok58 : compFn Try.prog false [] Try.f58 = some m58 := by kernel_rfl
theorem ok59 : compFn Try.prog false [] Try.f59 = some m59 := by kernel_rfl
theorem ok60 : compFn Try.prog false [] Try.f60 = some m60 := by kernel_rfl
theorem ok61 : compFn Try.prog false [] Try.f61 = some m61 := by kernel_rfl
theorem ok62 : compFn Try.prog false [] Try.f62 = some m62 := by kernel_rfl
theorem ok64 : compFn Try.prog false [] Try.f64 = some m64 := by kernel_rfl
theorem ok65 : compFn Try.prog false [] Try.f65 = some m65 := by kernel_rfl
theorem ok66 : compFn Try.prog false [] Try.f66 = some m66 := by kernel_rfl
theorem ok68 : compFn Try.prog false [] Try.f68 = some m68 := by kernel_rfl
theorem ok70 : compFn Try.prog false [] Try.f70 = some m70 := by kernel_rfl
theorem ok73 : compFn Try.prog false [] Try.f73 = some m73 := by kernel_rfl
theorem ok74 : compFn Try.prog false [] Try.f74 = some m74 := by kernel_rfl
theorem ok75 : compFn Try.prog false [] Try.f75 = some m75 := by kernel_rfl
theorem ok77 : compFn Try.prog false [] Try.f77 = some m77 := by kernel_rfl
theorem ok78 : compFn Try.prog false [] Try.f78 = some m78 := by kernel_rfl
theorem ok79 : compFn Try.prog false [] Try.f79 = some m79 := by kernel_rfl
theorem ok80 : compFn Try.prog false [] Try.f80 = some m80 := by kernel_rfl
theorem ok81 : compFn Try.prog false [] Try.f81 = some m81 := by kernel_rfl
theorem ok82 : compFn Try.prog false [] Try.f82 = some m82 := by kernel_rfl
theorem ok83 : compFn Try.prog false [] Try.f83 = some m83 := by kernel_rfl
section
variable {sp : FuncId → Option (List AV → Option AV)} {L n d : Nat} {π : List Nat} {args : List AV} {H : Heap}
end
theorem fnsOk (spec : FuncId → Option (List AV → Option AV)) (L : Nat) : FnsOk Try.prog ⟨fnOf, spec, L⟩ := by
  intro f fm h
  simp only [fnOf] at h
  split at h
  · cases h; exact ⟨_, Try.func3, ne_of_beq_false (by kernel_rfl), ok3⟩
  · cases h; exact ⟨_, Try.func4, ne_of_beq_false (by kernel_rfl), ok4⟩
  · cases h; exact ⟨_, Try.func8, ne_of_beq_false (by kernel_rfl), ok8⟩
  · cases h; exact ⟨_, Try.func13, ne_of_beq_false (by kernel_rfl), ok13⟩
  · cases h; exact ⟨_, Try.func14, ne_of_beq_false (by kernel_rfl), ok14⟩
  · cases h; exact ⟨_, Try.func15, ne_of_beq_false (by kernel_rfl), ok15⟩
  · cases h; exact ⟨_, Try.func16, ne_of_beq_false (by kernel_rfl), ok16⟩
  · cases h; exact ⟨_, Try.func17, ne_of_beq_false (by kernel_rfl), ok17⟩
  · cases h; exact ⟨_, Try.func18, ne_of_beq_false (by kernel_rfl), ok18⟩
  · cases h; exact ⟨_, Try.func19, ne_of_beq_false (by kernel_rfl), ok19⟩
  · cases h; exact ⟨_, Try.func20, ne_of_beq_false (by kernel_rfl), ok20⟩
  · cases h; exact ⟨_, Try.func21, ne_of_beq_false (by kernel_rfl), ok21⟩
  · cases h; exact ⟨_, Try.func22, ne_of_beq_false (by kernel_rfl), ok22⟩
  · cases h; exact ⟨_, Try.func23, ne_of_beq_false (by kernel_rfl), ok23⟩
  · cases h; exact ⟨_, Try.func24, ne_of_beq_false (by kernel_rfl), ok24⟩
  · cases h; exact ⟨_, Try.func30, ne_of_beq_false (by kernel_rfl), ok30⟩
  · cases h; exact ⟨_, Try.func31, ne_of_beq_false (by kernel_rfl), ok31⟩
  · cases h; exact ⟨_, Try.func32, ne_of_beq_false (by kernel_rfl), ok32⟩
  · cases h; exact ⟨_, Try.func33, ne_of_beq_false (by kernel_rfl), ok33⟩
  · cases h; exact ⟨_, Try.func34, ne_of_beq_false (by kernel_rfl), ok34⟩
  · cases h; exact ⟨_, Try.func35, ne_of_beq_false (by kernel_rfl), ok35⟩
  · cases h; exact ⟨_, Try.func37, ne_of_beq_false (by kernel_rfl), ok37⟩
  · cases h; exact ⟨_, Try.func38, ne_of_beq_false (by kernel_rfl), ok38⟩
  · cases h; exact ⟨_, Try.func39, ne_of_beq_false (by kernel_rfl), ok39⟩
  · cases h; exact ⟨_, Try.func40, ne_of_beq_false (by kernel_rfl), ok40⟩
  · cases h; exact ⟨_, Try.func41, ne_of_beq_false (by kernel_rfl), ok41⟩
  · cases h; exact ⟨_, Try.func42, ne_of_beq_false (by kernel_rfl), ok42⟩
  · cases h; exact ⟨_, Try.func43, ne_of_beq_false (by kernel_rfl), ok43⟩
  · cases h; exact ⟨_, Try.func44, ne_of_beq_false (by kernel_rfl), ok44⟩
  · cases h; exact ⟨_, Try.func45, ne_of_beq_false (by kernel_rfl), ok45⟩
  · cases h; exact ⟨_, Try.func46, ne_of_beq_false (by kernel_rfl), ok46⟩
  · cases h; exact ⟨_, Try.func51, ne_of_beq_false (by kernel_rfl), ok51⟩
  · cases h; exact ⟨_, Try.func52, ne_of_beq_false (by kernel_rfl), ok52⟩
  · cases h; exact ⟨_, Try.func53, ne_of_beq_false (by kernel_rfl), ok53⟩
  · cases h; exact ⟨_, Try.func54, ne_of_beq_false (by kernel_rfl), ok54⟩
  · cases h; exact ⟨_, Try.func55, ne_of_beq_false (by kernel_rfl), ok55⟩
  · cases h; exact ⟨_, Try.func56, ne_of_beq_false (by kernel_rfl), ok56⟩
  · cases h; exact ⟨_, Try.func57, ne_of_beq_false (by kernel_rfl), ok57⟩
  · cases h; exact ⟨_, Try.func58, ne_of_beq_false (by kernel_rfl), ok58⟩
  · cases h; exact ⟨_, Try.func59, ne_of_beq_false (by kernel_rfl), ok59⟩
  · cases h; exact ⟨_, Try.func60, ne_of_beq_false (by kernel_rfl), ok60⟩
  · cases h; exact ⟨_, Try.func61, ne_of_beq_false (by kernel_rfl), ok61⟩
  · cases h; exact ⟨_, Try.func62, ne_of_beq_false (by kernel_rfl), ok62⟩
  · cases h; exact ⟨_, Try.func64, ne_of_beq_false (by kernel_rfl), ok64⟩
  · cases h; exact ⟨_, Try.func65, ne_of_beq_false (by kernel_rfl), ok65⟩
  · cases h; exact ⟨_, Try.func66, ne_of_beq_false (by kernel_rfl), ok66⟩
  · cases h; exact ⟨_, Try.func68, ne_of_beq_false (by kernel_rfl), ok68⟩
  · cases h; exact ⟨_, Try.func70, ne_of_beq_false (by kernel_rfl), ok70⟩
  · cases h; exact ⟨_, Try.func73, ne_of_beq_false (by kernel_rfl), ok73⟩
  · cases h; exact ⟨_, Try.func74, ne_of_beq_false (by kernel_rfl), ok74⟩
  · cases h; exact ⟨_, Try.func75, ne_of_beq_false (by kernel_rfl), ok75⟩
  · cases h; exact ⟨_, Try.func77, ne_of_beq_false (by kernel_rfl), ok77⟩
  · cases h; exact ⟨_, Try.func78, ne_of_beq_false (by kernel_rfl), ok78⟩
  · cases h; exact ⟨_, Try.func79, ne_of_beq_false (by kernel_rfl), ok79⟩
  · cases h; exact ⟨_, Try.func80, ne_of_beq_false (by kernel_rfl), ok80⟩
  · cases h; exact ⟨_, Try.func81, ne_of_beq_false (by kernel_rfl), ok81⟩
  · cases h; exact ⟨_, Try.func82, ne_of_beq_false (by kernel_rfl), ok82⟩
  · cases h; exact ⟨_, Try.func83, ne_of_beq_false (by kernel_rfl), ok83⟩
  · cases h
theorem follows : Try.prog.follows .mixedOrders = true := by kernel_rfl
theorem laidOut : laidOutB Try.prog = true := by kernel_rfl
theorem own : ownKnob Try.prog.godebug = none := by kernel_rfl
/-- what the evaluator answers, the program answers -/
theorem law {spec : FuncId → Option (List AV → Option AV)} {L k : Nat} {f : FuncId} {avs : List AV} {x : Value} (hS : SpecOk Try.prog ⟨fnOf, spec, L⟩) (h : den ⟨fnOf, spec, L⟩ k f avs = some (.v x)) {W : World} {args : Array Value} (hr : RelL (ρ0 fun _ => False) old0 W avs args.toList) :
    Calls Try.prog f args W fun e w' => e = .returned x ∧ RowKit.Below W.heap.size W w' :=
  den_calls hS (fnsOk _ _) (fun _ hC => draw_ok follows hC hS) h hr
end Go.Proofs.Ytnphdnokedhhkaa.Fw
