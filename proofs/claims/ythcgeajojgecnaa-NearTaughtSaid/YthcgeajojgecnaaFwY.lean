/- Each small code is what 'compFn' gives. Written by gen.py. -/
import Derived.Test.YthcgeajojgecnaaFwZ
import Derived.Test.YthcgeajojgecnaaFwW
import Derived.Test.YthcgeajojgecnaaRows
import Derived.Test.YthcgeajojgecnaaProg
import Derived.KernelRfl
set_option maxRecDepth 100000
namespace Go.Proofs.Ythcgeajojgecnaa.Fw
open Go Go.Proofs
theorem ok3 : compFn Try.prog false [(1, none, 1, true), (1, some 0, 1, true), (3, none, 1, true), (3, some 0, 1, true), (4, none, 1, true), (4, some 0, 1, true), (6, none, 1, true), (6, some 0, 1, true), (8, none, 1, true), (8, some 0, 1, true)] Try.f3 = some m3 := by kernel_rfl
theorem ok4 : compFn Try.prog false [(8, none, 1, true), (8, some 0, 1, true), (10, none, 1, true), (10, some 0, 1, true), (12, none, 1, true), (12, some 0, 1, true)] Try.f4 = some m4 := by kernel_rfl
theorem ok13 : compFn Try.prog false [(3, none, 2, true), (3, some 0, 2, true), (4, none, 1, true), (4, some 0, 1, true), (6, none, 1, true), (6, some 0, 1, true), (9, none, 1, true), (9, some 0, 1, true), (12, none, 2, true), (12, some 0, 2, true), (15, none, 1, true), (15, some 0, 1, true), (18, none, 2, true), (18, some 0, 2, true)] Try.f13 = some m13 := by kernel_rfl
theorem ok15 : compFn Try.prog false [(1, none, 1, true), (1, some 0, 1, true), (2, none, 1, true), (2, some 0, 1, true), (4, none, 1, true), (4, some 0, 1, true), (6, none, 1, true), (6, some 0, 1, true)] Try.f15 = some m15 := by kernel_rfl
theorem ok16 : compFn Try.prog false [(2, none, 1, true), (2, some 0, 1, true), (3, none, 1, true), (3, some 0, 1, true)] Try.f16 = some m16 := by kernel_rfl
theorem ok17 : compFn Try.prog false [(2, none, 1, true), (2, some 0, 1, true), (4, none, 1, true), (4, some 0, 1, true)] Try.f17 = some m17 := by kernel_rfl
theorem ok18 : compFn Try.prog false [] Try.f18 = some m18 := by kernel_rfl
theorem ok19 : compFn Try.prog false [] Try.f19 = some m19 := by kernel_rfl
theorem ok20 : compFn Try.prog false [] Try.f20 = some m20 := by kernel_rfl
theorem ok21 : compFn Try.prog false [(2, none, 1, true), (2, some 0, 1, true), (4, none, 1, true), (4, some 0, 1, true), (5, none, 1, true), (5, some 0, 1, true), (7, none, 1, true), (7, some 0, 1, true)] Try.f21 = some m21 := by kernel_rfl
theorem ok22 : compFn Try.prog false [(1, none, 1, true), (1, some 0, 1, true), (3, none, 1, true), (3, some 0, 1, true), (4, none, 1, true), (4, some 0, 1, true), (5, none, 1, true), (5, some 0, 1, true)] Try.f22 = some m22 := by kernel_rfl
theorem ok23 : compFn Try.prog false [] Try.f23 = some m23 := by kernel_rfl
theorem ok24 : compFn Try.prog false [(2, none, 1, true), (2, some 0, 1, true), (3, none, 1, true), (3, some 0, 1, true), (5, none, 1, true), (5, some 0, 1, true), (6, none, 1, true), (6, some 0, 1, true), (8, none, 1, true), (8, some 0, 1, true), (9, none, 1, true), (9, some 0, 1, true)] Try.f24 = some m24 := by kernel_rfl
theorem ok25 : compFn Try.prog false [(2, none, 1, true), (2, some 0, 1, true), (4, none, 1, true), (4, some 0, 1, true)] Try.f25 = some m25 := by kernel_rfl
theorem ok26 : compFn Try.prog false [] Try.f26 = some m26 := by kernel_rfl
theorem ok28 : compFn Try.prog false [] Try.f28 = some m28 := by kernel_rfl
theorem ok29 : compFn Try.prog false [] Try.f29 = some m29 := by kernel_rfl
theorem ok31 : compFn Try.prog false [(7, none, 1, true), (7, some 0, 1, true), (11, none, 1, true), (11, some 0, 1, true), (12, none, 1, true), (12, some 0, 1, true), (14, none, 1, true), (14, some 0, 1, true)] Try.f31 = some m31 := by kernel_rfl
theorem ok35 : compFn Try.prog false [(8, none, 1, true), (8, some 0, 1, true), (10, none, 1, true), (10, some 0, 1, true), (11, none, 1, true), (11, some 0, 1, true), (14, none, 1, true), (14, some 0, 1, true)] Try.f35 = some m35 := by kernel_rfl
theorem ok36 : compFn Try.prog false [(8, none, 1, true), (8, some 0, 1, true), (10, none, 1, true), (10, some 0, 1, true), (12, none, 1, true), (12, some 0, 1, true)] Try.f36 = some m36 := by kernel_rfl
theorem ok37 : compFn Try.prog false [(7, none, 1, true), (7, some 0, 1, true), (9, none, 1, true), (9, some 0, 1, true)] Try.f37 = some m37 := by kernel_rfl
theorem ok40 : compFn Try.prog false [] Try.f40 = some m40 := by kernel_rfl
theorem ok44 : compFn Try.prog false [(2, none, 1, true), (2, some 0, 1, true), (3, none, 1, true), (3, some 0, 1, true)] Try.f44 = some m44 := by kernel_rfl
theorem ok46 : compFn Try.prog false [(6, none, 2, true), (6, some 0, 2, true)] Try.f46 = some m46 := by kernel_rfl
theorem ok51 : compFn Try.prog false [(1, none, 1, true), (1, some 0, 1, true), (3, none, 2, true), (3, some 0, 2, true)] Try.f51 = some m51 := by kernel_rfl
theorem ok58 : compFn Try.prog false [] Try.f58 = some m58 := by kernel_rfl
theorem ok59 : compFn Try.prog false [] Try.f59 = some m59 := by kernel_rfl
theorem ok62 : compFn Try.prog false [(8, none, 1, true), (8, some 0, 1, true)] Try.f62 = some m62 := by kernel_rfl
theorem ok64 : compFn Try.prog false [] Try.f64 = some m64 := by kernel_rfl
theorem ok65 : compFn Try.prog false [(6, none, 1, true), (6, some 0, 1, true), (8, none, 1, true), (8, some 0, 1, true)] Try.f65 = some m65 := by kernel_rfl
theorem ok66 : compFn Try.prog false [] Try.f66 = some m66 := by kernel_rfl
theorem ok68 : compFn Try.prog false [(2, none, 1, true), (2, some 0, 1, true), (3, none, 1, true), (3, some 0, 1, true), (4, none, 1, true), (4, some 0, 1, true), (5, none, 1, true), (5, some 0, 1, true)] Try.f68 = some m68 := by kernel_rfl
theorem ok69 : compFn Try.prog false [] Try.f69 = some m69 := by kernel_rfl
theorem ok70 : compFn Try.prog false [] Try.f70 = some m70 := by kernel_rfl
theorem ok71 : compFn Try.prog false [] Try.f71 = some m71 := by kernel_rfl
theorem ok73 : compFn Try.prog false [] Try.f73 = some m73 := by kernel_rfl
theorem ok74 : compFn Try.prog false [] Try.f74 = some m74 := by kernel_rfl
theorem ok75 : compFn Try.prog false [] Try.f75 = some m75 := by kernel_rfl
theorem ok76 : compFn Try.prog false [] Try.f76 = some m76 := by kernel_rfl
theorem ok77 : compFn Try.prog false [] Try.f77 = some m77 := by kernel_rfl
theorem ok78 : compFn Try.prog false [] Try.f78 = some m78 := by kernel_rfl
theorem ok80 : compFn Try.prog false [] Try.f80 = some m80 := by kernel_rfl
theorem ok81 : compFn Try.prog false [(8, none, 2, true), (8, some 0, 2, true), (12, none, 1, true), (12, some 0, 1, true), (14, none, 2, true), (14, some 0, 2, true)] Try.f81 = some m81 := by kernel_rfl
theorem ok83 : compFn Try.prog false [] Try.f83 = some m83 := by kernel_rfl
theorem ok84 : compFn Try.prog false [] Try.f84 = some m84 := by kernel_rfl
theorem ok85 : compFn Try.prog false [] Try.f85 = some m85 := by kernel_rfl
theorem ok86 : compFn Try.prog false [] Try.f86 = some m86 := by kernel_rfl
theorem ok87 : compFn Try.prog false [] Try.f87 = some m87 := by kernel_rfl
theorem ok92 : compFn Try.prog false [] Try.f92 = some m92 := by kernel_rfl
theorem ok93 : compFn Try.prog false [] Try.f93 = some m93 := by kernel_rfl
theorem ok98 : compFn Try.prog false [] Try.f98 = some m98 := by kernel_rfl
theorem ok99 : compFn Try.prog false [] Try.f99 = some m99 := by kernel_rfl
theorem ok100 : compFn Try.prog false [] Try.f100 = some m100 := by kernel_rfl
theorem ok102 : compFn Try.prog false [] Try.f102 = some m102 := by kernel_rfl
theorem ok103 : compFn Try.prog false [] Try.f103 = some m103 := by kernel_rfl
theorem ok107 : compFn Try.prog false [] Try.f107 = some m107 := by kernel_rfl
theorem ok112 : compFn Try.prog false [] Try.f112 = some m112 := by kernel_rfl
theorem ok113 : compFn Try.prog false [] Try.f113 = some m113 := by kernel_rfl
theorem ok114 : compFn Try.prog false [] Try.f114 = some m114 := by kernel_rfl
theorem ok118 : compFn Try.prog false [] Try.f118 = some m118 := by kernel_rfl
theorem ok120 : compFn Try.prog false [] Try.f120 = some m120 := by kernel_rfl
theorem ok121 : compFn Try.prog false [] Try.f121 = some m121 := by kernel_rfl
theorem ok123 : compFn Try.prog false [] Try.f123 = some m123 := by kernel_rfl
theorem ok125 : compFn Try.prog false [] Try.f125 = some m125 := by kernel_rfl
theorem ok126 : compFn Try.prog false [] Try.f126 = some m126 := by kernel_rfl
section
variable {sp : FuncId → Option (List AV → Option AV)} {L n d : Nat} {π : List Nat} {args : List AV} {H : Heap}
end
theorem fnsOk (spec : FuncId → Option (List AV → Option AV)) (L : Nat) : FnsOk Try.prog ⟨fnOf, spec, L⟩ := by
  intro f fm h
  simp only [fnOf] at h
  split at h
  · cases h; exact ⟨_, Try.func3, ne_of_beq_false (by kernel_rfl), ok3⟩
  · cases h; exact ⟨_, Try.func4, ne_of_beq_false (by kernel_rfl), ok4⟩
  · cases h; exact ⟨_, Try.func13, ne_of_beq_false (by kernel_rfl), ok13⟩
  · cases h; exact ⟨_, Try.func15, ne_of_beq_false (by kernel_rfl), ok15⟩
  · cases h; exact ⟨_, Try.func16, ne_of_beq_false (by kernel_rfl), ok16⟩
  · cases h; exact ⟨_, Try.func17, ne_of_beq_false (by kernel_rfl), ok17⟩
  · cases h; exact ⟨_, Try.func18, ne_of_beq_false (by kernel_rfl), ok18⟩
  · cases h; exact ⟨_, Try.func19, ne_of_beq_false (by kernel_rfl), ok19⟩
  · cases h; exact ⟨_, Try.func20, ne_of_beq_false (by kernel_rfl), ok20⟩
  · cases h; exact ⟨_, Try.func21, ne_of_beq_false (by kernel_rfl), ok21⟩
  · cases h; exact ⟨_, Try.func22, ne_of_beq_false (by kernel_rfl), ok22⟩
  · cases h; exact ⟨_, Try.func23, ne_of_beq_false (by kernel_rfl), ok23⟩
  · cases h; exact ⟨_, Try.func24, ne_of_beq_false (by kernel_rfl), ok24⟩
  · cases h; exact ⟨_, Try.func25, ne_of_beq_false (by kernel_rfl), ok25⟩
  · cases h; exact ⟨_, Try.func26, ne_of_beq_false (by kernel_rfl), ok26⟩
  · cases h; exact ⟨_, Try.func28, ne_of_beq_false (by kernel_rfl), ok28⟩
  · cases h; exact ⟨_, Try.func29, ne_of_beq_false (by kernel_rfl), ok29⟩
  · cases h; exact ⟨_, Try.func31, ne_of_beq_false (by kernel_rfl), ok31⟩
  · cases h; exact ⟨_, Try.func35, ne_of_beq_false (by kernel_rfl), ok35⟩
  · cases h; exact ⟨_, Try.func36, ne_of_beq_false (by kernel_rfl), ok36⟩
  · cases h; exact ⟨_, Try.func37, ne_of_beq_false (by kernel_rfl), ok37⟩
  · cases h; exact ⟨_, Try.func40, ne_of_beq_false (by kernel_rfl), ok40⟩
  · cases h; exact ⟨_, Try.func44, ne_of_beq_false (by kernel_rfl), ok44⟩
  · cases h; exact ⟨_, Try.func46, ne_of_beq_false (by kernel_rfl), ok46⟩
  · cases h; exact ⟨_, Try.func51, ne_of_beq_false (by kernel_rfl), ok51⟩
  · cases h; exact ⟨_, Try.func58, ne_of_beq_false (by kernel_rfl), ok58⟩
  · cases h; exact ⟨_, Try.func59, ne_of_beq_false (by kernel_rfl), ok59⟩
  · cases h; exact ⟨_, Try.func62, ne_of_beq_false (by kernel_rfl), ok62⟩
  · cases h; exact ⟨_, Try.func64, ne_of_beq_false (by kernel_rfl), ok64⟩
  · cases h; exact ⟨_, Try.func65, ne_of_beq_false (by kernel_rfl), ok65⟩
  · cases h; exact ⟨_, Try.func66, ne_of_beq_false (by kernel_rfl), ok66⟩
  · cases h; exact ⟨_, Try.func68, ne_of_beq_false (by kernel_rfl), ok68⟩
  · cases h; exact ⟨_, Try.func69, ne_of_beq_false (by kernel_rfl), ok69⟩
  · cases h; exact ⟨_, Try.func70, ne_of_beq_false (by kernel_rfl), ok70⟩
  · cases h; exact ⟨_, Try.func71, ne_of_beq_false (by kernel_rfl), ok71⟩
  · cases h; exact ⟨_, Try.func73, ne_of_beq_false (by kernel_rfl), ok73⟩
  · cases h; exact ⟨_, Try.func74, ne_of_beq_false (by kernel_rfl), ok74⟩
  · cases h; exact ⟨_, Try.func75, ne_of_beq_false (by kernel_rfl), ok75⟩
  · cases h; exact ⟨_, Try.func76, ne_of_beq_false (by kernel_rfl), ok76⟩
  · cases h; exact ⟨_, Try.func77, ne_of_beq_false (by kernel_rfl), ok77⟩
  · cases h; exact ⟨_, Try.func78, ne_of_beq_false (by kernel_rfl), ok78⟩
  · cases h; exact ⟨_, Try.func80, ne_of_beq_false (by kernel_rfl), ok80⟩
  · cases h; exact ⟨_, Try.func81, ne_of_beq_false (by kernel_rfl), ok81⟩
  · cases h; exact ⟨_, Try.func83, ne_of_beq_false (by kernel_rfl), ok83⟩
  · cases h; exact ⟨_, Try.func84, ne_of_beq_false (by kernel_rfl), ok84⟩
  · cases h; exact ⟨_, Try.func85, ne_of_beq_false (by kernel_rfl), ok85⟩
  · cases h; exact ⟨_, Try.func86, ne_of_beq_false (by kernel_rfl), ok86⟩
  · cases h; exact ⟨_, Try.func87, ne_of_beq_false (by kernel_rfl), ok87⟩
  · cases h; exact ⟨_, Try.func92, ne_of_beq_false (by kernel_rfl), ok92⟩
  · cases h; exact ⟨_, Try.func93, ne_of_beq_false (by kernel_rfl), ok93⟩
  · cases h; exact ⟨_, Try.func98, ne_of_beq_false (by kernel_rfl), ok98⟩
  · cases h; exact ⟨_, Try.func99, ne_of_beq_false (by kernel_rfl), ok99⟩
  · cases h; exact ⟨_, Try.func100, ne_of_beq_false (by kernel_rfl), ok100⟩
  · cases h; exact ⟨_, Try.func102, ne_of_beq_false (by kernel_rfl), ok102⟩
  · cases h; exact ⟨_, Try.func103, ne_of_beq_false (by kernel_rfl), ok103⟩
  · cases h; exact ⟨_, Try.func107, ne_of_beq_false (by kernel_rfl), ok107⟩
  · cases h; exact ⟨_, Try.func112, ne_of_beq_false (by kernel_rfl), ok112⟩
  · cases h; exact ⟨_, Try.func113, ne_of_beq_false (by kernel_rfl), ok113⟩
  · cases h; exact ⟨_, Try.func114, ne_of_beq_false (by kernel_rfl), ok114⟩
  · cases h; exact ⟨_, Try.func118, ne_of_beq_false (by kernel_rfl), ok118⟩
  · cases h; exact ⟨_, Try.func120, ne_of_beq_false (by kernel_rfl), ok120⟩
  · cases h; exact ⟨_, Try.func121, ne_of_beq_false (by kernel_rfl), ok121⟩
  · cases h; exact ⟨_, Try.func123, ne_of_beq_false (by kernel_rfl), ok123⟩
  · cases h; exact ⟨_, Try.func125, ne_of_beq_false (by kernel_rfl), ok125⟩
  · cases h; exact ⟨_, Try.func126, ne_of_beq_false (by kernel_rfl), ok126⟩
  · cases h
theorem follows : Try.prog.follows .mixedOrders = true := by kernel_rfl
theorem laidOut : laidOutB Try.prog = true := by kernel_rfl
theorem own : ownKnob Try.prog.godebug = none := by kernel_rfl
/-- what the evaluator answers, the program answers -/
theorem law {spec : FuncId → Option (List AV → Option AV)} {L k : Nat} {f : FuncId} {avs : List AV} {x : Value} (hS : SpecOk Try.prog ⟨fnOf, spec, L⟩) (h : den ⟨fnOf, spec, L⟩ k f avs = some (.v x)) {W : World} {args : Array Value} (hr : RelL (ρ0 fun _ => False) old0 W avs args.toList) :
    Calls Try.prog f args W fun e w' => e = .returned x ∧ RowKit.Below W.heap.size W w' :=
  den_calls hS (fnsOk _ _) (fun _ hC => draw_ok follows hC hS) h hr
end Go.Proofs.Ythcgeajojgecnaa.Fw
