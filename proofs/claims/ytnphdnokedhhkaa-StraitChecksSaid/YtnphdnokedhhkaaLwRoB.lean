/- turned (the program's and the document's): paths, printed by a program of ours. -/
import Derived.Test.YtnphdnokedhhkaaFwY
import Derived.Test.YtnphdnokedhhkaaFwAbs
import Derived.Test.YtnphdnokedhhkaaFwW
import Derived.Test.YtnphdnokedhhkaaLwRoA
import Derived.KernelRfl
set_option maxRecDepth 100000
set_option maxHeartbeats 4000000
set_option linter.unusedSimpArgs false
set_option linter.unusedVariables false
namespace Go.Proofs.Ytnphdnokedhhkaa.Fw
open Go Go.RowKit

def roSt (a b : Nat) (m : Int) (i : Nat) : St := ⟨[(0, .cpx a b), (6, .int .i64 m), (7, .int .i64 i)], [], 0⟩
def ruSt (a b : Nat) (m : Int) (i : Nat) : St := ⟨[(0, .cpx a b), (1, .int .i64 m), (5, .int .i64 i)], [], 0⟩
theorem ror_0 {L n : Nat} {a b c d i : Nat} {m k : Int} {π : List Nat} (h0 : (decide ((↑i : Int) < m)) = true) : seeZ 0 [0, 6, 7] m46.res (bodyOf ⟨fnOf, specK, L⟩ (runF ⟨fnOf, specK, L⟩ n) 0 m46b0 (i :: π) (roSt a b m i : St)) = some (RO.go .nrm (.mk [(0, (.cpx (fneg b) (a))), (6, (.v (.int .i64 (m)))), (7, (.v (.int .i64 (IntKind.wrap .i64 ((↑i : Int) + 1)))))] [] 0)) := by
  have hd : rndZ ⟨fnOf, specK, L⟩ (runF ⟨fnOf, specK, L⟩ n) 0 [0, 6, 7] m46.res m46b0 (i :: π) (roSt a b m i : St) [((some 8), (Dec.b true))] = some ((RO.go .nrm (.mk [(0, (.cpx (fneg b) (a))), (6, (.v (.int .i64 (m)))), (7, (.v (.int .i64 (IntKind.wrap .i64 ((↑i : Int) + 1)))))] [] 0)), [(.b (decide ((↑i : Int) < m)) true)]) := by kernel_rfl
  exact rndZ_sound hd ⟨h0, trivial⟩
theorem ror_1 {L n : Nat} {a b c d i : Nat} {m k : Int} {π : List Nat} (h0 : (decide ((↑i : Int) < m)) = false) : seeZ 0 [0, 6, 7] m46.res (bodyOf ⟨fnOf, specK, L⟩ (runF ⟨fnOf, specK, L⟩ n) 0 m46b0 (i :: π) (roSt a b m i : St)) = some (RO.go (.exit 0) (.mk [(0, (.cpx (a) (b))), (6, (.v (.int .i64 (m)))), (7, (.v (.int .i64 ((↑i : Int)))))] [] 0)) := by
  have hd : rndZ ⟨fnOf, specK, L⟩ (runF ⟨fnOf, specK, L⟩ n) 0 [0, 6, 7] m46.res m46b0 (i :: π) (roSt a b m i : St) [((some 8), (Dec.b false))] = some ((RO.go (.exit 0) (.mk [(0, (.cpx (a) (b))), (6, (.v (.int .i64 (m)))), (7, (.v (.int .i64 ((↑i : Int)))))] [] 0)), [(.b (decide ((↑i : Int) < m)) false)]) := by kernel_rfl
  exact rndZ_sound hd ⟨h0, trivial⟩
theorem ro_0 {L n : Nat} {a b c d i : Nat} {m k : Int} {π : List Nat} (h0 : Con.holds ⟨fnOf, specK, L⟩ (runF ⟨fnOf, specK, L⟩ n) (.loop 0 [0, 6, 7] m46b0 [4] (.mk [(0, (.cpx (a) (b))), (6, (.v (.int .i64 (IntKind.wrap .i64 (↑(BitVec.ofInt 64 k &&& BitVec.ofInt 64 (3)).toNat : Int))))), (7, (.v (.int .i64 0)))] [] 0) (.exit 0) (.mk [(0, (.cpx (c) (d))), (6, (.v (.int .i64 (iand .i64 k (3))))), (7, (.v (.int .i64 ((↑i : Int)))))] [] 0))) : den ⟨fnOf, specK, L⟩ (n+1) 46 [.cpx a b, .int .i64 k] = some (.cpx (c) (d)) := by
  have hd : denD ⟨fnOf, specK, L⟩ n 46 [.cpx a b, .int .i64 k] [((some 200000), (Dec.loop (.exit 0) (.mk [(0, (.cpx (c) (d))), (6, (.v (.int .i64 (iand .i64 k (3))))), (7, (.v (.int .i64 ((↑i : Int)))))] [] 0)))] = some ((.cpx (c) (d)), [(.loop 0 [0, 6, 7] m46b0 [4] (.mk [(0, (.cpx (a) (b))), (6, (.v (.int .i64 (IntKind.wrap .i64 (↑(BitVec.ofInt 64 k &&& BitVec.ofInt 64 (3)).toNat : Int))))), (7, (.v (.int .i64 0)))] [] 0) (.exit 0) (.mk [(0, (.cpx (c) (d))), (6, (.v (.int .i64 (iand .i64 k (3))))), (7, (.v (.int .i64 ((↑i : Int)))))] [] 0))]) := by kernel_rfl
  exact denD_sound hd ⟨h0, trivial⟩
theorem rur_0 {L n : Nat} {a b c d i : Nat} {m k : Int} {π : List Nat} (h0 : (decide ((↑i : Int) < m)) = true) : seeZ 0 [0, 1, 5] m47.res (bodyOf ⟨fnOf, specK, L⟩ (runF ⟨fnOf, specK, L⟩ n) 0 m47b0 (i :: π) (ruSt a b m i : St)) = some (RO.go .nrm (.mk [(0, (.cpx (fneg b) (a))), (1, (.v (.int .i64 (m)))), (5, (.v (.int .i64 (IntKind.wrap .i64 ((↑i : Int) + 1)))))] [] 0)) := by
  have hd : rndZ ⟨fnOf, specK, L⟩ (runF ⟨fnOf, specK, L⟩ n) 0 [0, 1, 5] m47.res m47b0 (i :: π) (ruSt a b m i : St) [((some 14), (Dec.b true))] = some ((RO.go .nrm (.mk [(0, (.cpx (fneg b) (a))), (1, (.v (.int .i64 (m)))), (5, (.v (.int .i64 (IntKind.wrap .i64 ((↑i : Int) + 1)))))] [] 0)), [(.b (decide ((↑i : Int) < m)) true)]) := by kernel_rfl
  exact rndZ_sound hd ⟨h0, trivial⟩
theorem rur_1 {L n : Nat} {a b c d i : Nat} {m k : Int} {π : List Nat} (h0 : (decide ((↑i : Int) < m)) = false) : seeZ 0 [0, 1, 5] m47.res (bodyOf ⟨fnOf, specK, L⟩ (runF ⟨fnOf, specK, L⟩ n) 0 m47b0 (i :: π) (ruSt a b m i : St)) = some (RO.go (.exit 0) (.mk [(0, (.cpx (a) (b))), (1, (.v (.int .i64 (m)))), (5, (.v (.int .i64 ((↑i : Int)))))] [] 0)) := by
  have hd : rndZ ⟨fnOf, specK, L⟩ (runF ⟨fnOf, specK, L⟩ n) 0 [0, 1, 5] m47.res m47b0 (i :: π) (ruSt a b m i : St) [((some 14), (Dec.b false))] = some ((RO.go (.exit 0) (.mk [(0, (.cpx (a) (b))), (1, (.v (.int .i64 (m)))), (5, (.v (.int .i64 ((↑i : Int)))))] [] 0)), [(.b (decide ((↑i : Int) < m)) false)]) := by kernel_rfl
  exact rndZ_sound hd ⟨h0, trivial⟩
theorem ru_0 {L n : Nat} {a b c d i : Nat} {m k : Int} {π : List Nat} (h0 : (decide (k.tmod (4) < 0)) = true) (h1 : Con.holds ⟨fnOf, specK, L⟩ (runF ⟨fnOf, specK, L⟩ n) (.loop 0 [0, 1, 5] m47b0 [10] (.mk [(0, (.cpx (a) (b))), (1, (.v (.int .i64 (IntKind.wrap .i64 (k.tmod (4) + 4))))), (5, (.v (.int .i64 0)))] [] 0) (.exit 0) (.mk [(0, (.cpx (c) (d))), (1, (.v (.int .i64 (m)))), (5, (.v (.int .i64 ((↑i : Int)))))] [] 0))) : den ⟨fnOf, specK, L⟩ (n+1) 47 [.cpx a b, .int .i64 k] = some (.cpx (c) (d)) := by
  have hd : denD ⟨fnOf, specK, L⟩ n 47 [.cpx a b, .int .i64 k] [((some 9), (Dec.b true)), ((some 200000), (Dec.loop (.exit 0) (.mk [(0, (.cpx (c) (d))), (1, (.v (.int .i64 (m)))), (5, (.v (.int .i64 ((↑i : Int)))))] [] 0)))] = some ((.cpx (c) (d)), [(.b (decide (k.tmod (4) < 0)) true), (.loop 0 [0, 1, 5] m47b0 [10] (.mk [(0, (.cpx (a) (b))), (1, (.v (.int .i64 (IntKind.wrap .i64 (k.tmod (4) + 4))))), (5, (.v (.int .i64 0)))] [] 0) (.exit 0) (.mk [(0, (.cpx (c) (d))), (1, (.v (.int .i64 (m)))), (5, (.v (.int .i64 ((↑i : Int)))))] [] 0))]) := by kernel_rfl
  exact denD_sound hd ⟨h0, h1, trivial⟩
theorem ru_1 {L n : Nat} {a b c d i : Nat} {m k : Int} {π : List Nat} (h0 : (decide (k.tmod (4) < 0)) = false) (h1 : Con.holds ⟨fnOf, specK, L⟩ (runF ⟨fnOf, specK, L⟩ n) (.loop 0 [0, 1, 5] m47b0 [7] (.mk [(0, (.cpx (a) (b))), (1, (.v (.int .i64 (k.tmod (4))))), (5, (.v (.int .i64 0)))] [] 0) (.exit 0) (.mk [(0, (.cpx (c) (d))), (1, (.v (.int .i64 (m)))), (5, (.v (.int .i64 ((↑i : Int)))))] [] 0))) : den ⟨fnOf, specK, L⟩ (n+1) 47 [.cpx a b, .int .i64 k] = some (.cpx (c) (d)) := by
  have hd : denD ⟨fnOf, specK, L⟩ n 47 [.cpx a b, .int .i64 k] [((some 9), (Dec.b false)), ((some 200000), (Dec.loop (.exit 0) (.mk [(0, (.cpx (c) (d))), (1, (.v (.int .i64 (m)))), (5, (.v (.int .i64 ((↑i : Int)))))] [] 0)))] = some ((.cpx (c) (d)), [(.b (decide (k.tmod (4) < 0)) false), (.loop 0 [0, 1, 5] m47b0 [7] (.mk [(0, (.cpx (a) (b))), (1, (.v (.int .i64 (k.tmod (4))))), (5, (.v (.int .i64 0)))] [] 0) (.exit 0) (.mk [(0, (.cpx (c) (d))), (1, (.v (.int .i64 (m)))), (5, (.v (.int .i64 ((↑i : Int)))))] [] 0))]) := by kernel_rfl
  exact denD_sound hd ⟨h0, h1, trivial⟩
end Go.Proofs.Ytnphdnokedhhkaa.Fw
