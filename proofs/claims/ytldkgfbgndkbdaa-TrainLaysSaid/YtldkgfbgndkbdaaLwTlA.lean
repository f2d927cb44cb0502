/- train: may, half, Length and the document: paths, printed by a program of ours. -/
import Derived.Test.YtldkgfbgndkbdaaFwY
import Derived.Test.YtldkgfbgndkbdaaFwAbs
import Derived.Test.YtldkgfbgndkbdaaFwW
import Derived.Test.YtldkgfbgndkbdaaFwGr
import Derived.KernelRfl
set_option maxRecDepth 100000
set_option maxHeartbeats 4000000
set_option linter.unusedSimpArgs false
set_option linter.unusedVariables false
namespace Go.Proofs.Ytldkgfbgndkbdaa.Fw
open Go Go.RowKit

def res_39 (c : Bool) : AV := .v (.bool c)
def res_25 (c : Bool) : AV := .v (.bool c)
def res_40 (k : Int) : AV := .int .i64 k
def res_38 (k : Int) : AV := .int .i64 k
theorem tma_0 {L n : Nat} {o r g : Int} (h0 : (decide (o ≥ 1)) = true) (h1 : (decide (o ≤ 8)) = true) (h2 : (decide (r ≥ 1)) = true) (h3 : (decide (r ≤ 8)) = true) (h4 : (decide (g ≥ 0)) = true) : den ⟨fnOf, specAbs, L⟩ (n+1) 39 [.agg [.int .i64 o, .int .i64 r, .int .i64 g]] = some (.v (.bool (decide (g ≤ 4096)))) := by
  have hd : denD ⟨fnOf, specAbs, L⟩ n 39 [.agg [.int .i64 o, .int .i64 r, .int .i64 g]] [((some 6), (Dec.b true)), ((some 11), (Dec.b true)), ((some 16), (Dec.b true)), ((some 21), (Dec.b true)), ((some 26), (Dec.b true))] = some ((.v (.bool (decide (g ≤ 4096)))), [(.st [0] [0]), (.b (decide (o ≥ 1)) true), (.st [0] [0]), (.b (decide (o ≤ 8)) true), (.st [0] [0]), (.b (decide (r ≥ 1)) true), (.st [0] [0]), (.b (decide (r ≤ 8)) true), (.st [0] [0]), (.b (decide (g ≥ 0)) true), (.st [0] [0])]) := by kernel_rfl
  exact denD_sound hd ⟨rfl, h0, rfl, h1, rfl, h2, rfl, h3, rfl, h4, rfl, trivial⟩
theorem tma_1 {L n : Nat} {o r g : Int} (h0 : (decide (o ≥ 1)) = true) (h1 : (decide (o ≤ 8)) = true) (h2 : (decide (r ≥ 1)) = true) (h3 : (decide (r ≤ 8)) = true) (h4 : (decide (g ≥ 0)) = false) : den ⟨fnOf, specAbs, L⟩ (n+1) 39 [.agg [.int .i64 o, .int .i64 r, .int .i64 g]] = some (.v (.bool false)) := by
  have hd : denD ⟨fnOf, specAbs, L⟩ n 39 [.agg [.int .i64 o, .int .i64 r, .int .i64 g]] [((some 6), (Dec.b true)), ((some 11), (Dec.b true)), ((some 16), (Dec.b true)), ((some 21), (Dec.b true)), ((some 26), (Dec.b false))] = some ((.v (.bool false)), [(.st [0] [0]), (.b (decide (o ≥ 1)) true), (.st [0] [0]), (.b (decide (o ≤ 8)) true), (.st [0] [0]), (.b (decide (r ≥ 1)) true), (.st [0] [0]), (.b (decide (r ≤ 8)) true), (.st [0] [0]), (.b (decide (g ≥ 0)) false)]) := by kernel_rfl
  exact denD_sound hd ⟨rfl, h0, rfl, h1, rfl, h2, rfl, h3, rfl, h4, trivial⟩
theorem tma_2 {L n : Nat} {o r g : Int} (h0 : (decide (o ≥ 1)) = true) (h1 : (decide (o ≤ 8)) = true) (h2 : (decide (r ≥ 1)) = true) (h3 : (decide (r ≤ 8)) = false) : den ⟨fnOf, specAbs, L⟩ (n+1) 39 [.agg [.int .i64 o, .int .i64 r, .int .i64 g]] = some (.v (.bool false)) := by
  have hd : denD ⟨fnOf, specAbs, L⟩ n 39 [.agg [.int .i64 o, .int .i64 r, .int .i64 g]] [((some 6), (Dec.b true)), ((some 11), (Dec.b true)), ((some 16), (Dec.b true)), ((some 21), (Dec.b false))] = some ((.v (.bool false)), [(.st [0] [0]), (.b (decide (o ≥ 1)) true), (.st [0] [0]), (.b (decide (o ≤ 8)) true), (.st [0] [0]), (.b (decide (r ≥ 1)) true), (.st [0] [0]), (.b (decide (r ≤ 8)) false)]) := by kernel_rfl
  exact denD_sound hd ⟨rfl, h0, rfl, h1, rfl, h2, rfl, h3, trivial⟩
theorem tma_3 {L n : Nat} {o r g : Int} (h0 : (decide (o ≥ 1)) = true) (h1 : (decide (o ≤ 8)) = true) (h2 : (decide (r ≥ 1)) = false) : den ⟨fnOf, specAbs, L⟩ (n+1) 39 [.agg [.int .i64 o, .int .i64 r, .int .i64 g]] = some (.v (.bool false)) := by
  have hd : denD ⟨fnOf, specAbs, L⟩ n 39 [.agg [.int .i64 o, .int .i64 r, .int .i64 g]] [((some 6), (Dec.b true)), ((some 11), (Dec.b true)), ((some 16), (Dec.b false))] = some ((.v (.bool false)), [(.st [0] [0]), (.b (decide (o ≥ 1)) true), (.st [0] [0]), (.b (decide (o ≤ 8)) true), (.st [0] [0]), (.b (decide (r ≥ 1)) false)]) := by kernel_rfl
  exact denD_sound hd ⟨rfl, h0, rfl, h1, rfl, h2, trivial⟩
theorem tma_4 {L n : Nat} {o r g : Int} (h0 : (decide (o ≥ 1)) = true) (h1 : (decide (o ≤ 8)) = false) : den ⟨fnOf, specAbs, L⟩ (n+1) 39 [.agg [.int .i64 o, .int .i64 r, .int .i64 g]] = some (.v (.bool false)) := by
  have hd : denD ⟨fnOf, specAbs, L⟩ n 39 [.agg [.int .i64 o, .int .i64 r, .int .i64 g]] [((some 6), (Dec.b true)), ((some 11), (Dec.b false))] = some ((.v (.bool false)), [(.st [0] [0]), (.b (decide (o ≥ 1)) true), (.st [0] [0]), (.b (decide (o ≤ 8)) false)]) := by kernel_rfl
  exact denD_sound hd ⟨rfl, h0, rfl, h1, trivial⟩
theorem tma_5 {L n : Nat} {o r g : Int} (h0 : (decide (o ≥ 1)) = false) : den ⟨fnOf, specAbs, L⟩ (n+1) 39 [.agg [.int .i64 o, .int .i64 r, .int .i64 g]] = some (.v (.bool false)) := by
  have hd : denD ⟨fnOf, specAbs, L⟩ n 39 [.agg [.int .i64 o, .int .i64 r, .int .i64 g]] [((some 6), (Dec.b false))] = some ((.v (.bool false)), [(.st [0] [0]), (.b (decide (o ≥ 1)) false)]) := by kernel_rfl
  exact denD_sound hd ⟨rfl, h0, trivial⟩
theorem tMa_0 {L n : Nat} {o r g : Int} (h0 : (decide (o ≥ 1)) = true) (h1 : (decide (o ≤ 8)) = true) (h2 : (decide (r ≥ 1)) = true) (h3 : (decide (r ≤ 8)) = true) (h4 : (decide (g ≥ 0)) = true) : den ⟨fnOf, specAbs, L⟩ (n+1) 25 [.agg [.int .i64 o, .int .i64 r, .int .i64 g]] = some (.v (.bool (decide (g ≤ 4096)))) := by
  have hd : denD ⟨fnOf, specAbs, L⟩ n 25 [.agg [.int .i64 o, .int .i64 r, .int .i64 g]] [((some 6), (Dec.b true)), ((some 11), (Dec.b true)), ((some 16), (Dec.b true)), ((some 21), (Dec.b true)), ((some 26), (Dec.b true))] = some ((.v (.bool (decide (g ≤ 4096)))), [(.st [0] [0]), (.b (decide (o ≥ 1)) true), (.st [0] [0]), (.b (decide (o ≤ 8)) true), (.st [0] [0]), (.b (decide (r ≥ 1)) true), (.st [0] [0]), (.b (decide (r ≤ 8)) true), (.st [0] [0]), (.b (decide (g ≥ 0)) true), (.st [0] [0])]) := by kernel_rfl
  exact denD_sound hd ⟨rfl, h0, rfl, h1, rfl, h2, rfl, h3, rfl, h4, rfl, trivial⟩
theorem tMa_1 {L n : Nat} {o r g : Int} (h0 : (decide (o ≥ 1)) = true) (h1 : (decide (o ≤ 8)) = true) (h2 : (decide (r ≥ 1)) = true) (h3 : (decide (r ≤ 8)) = true) (h4 : (decide (g ≥ 0)) = false) : den ⟨fnOf, specAbs, L⟩ (n+1) 25 [.agg [.int .i64 o, .int .i64 r, .int .i64 g]] = some (.v (.bool false)) := by
  have hd : denD ⟨fnOf, specAbs, L⟩ n 25 [.agg [.int .i64 o, .int .i64 r, .int .i64 g]] [((some 6), (Dec.b true)), ((some 11), (Dec.b true)), ((some 16), (Dec.b true)), ((some 21), (Dec.b true)), ((some 26), (Dec.b false))] = some ((.v (.bool false)), [(.st [0] [0]), (.b (decide (o ≥ 1)) true), (.st [0] [0]), (.b (decide (o ≤ 8)) true), (.st [0] [0]), (.b (decide (r ≥ 1)) true), (.st [0] [0]), (.b (decide (r ≤ 8)) true), (.st [0] [0]), (.b (decide (g ≥ 0)) false)]) := by kernel_rfl
  exact denD_sound hd ⟨rfl, h0, rfl, h1, rfl, h2, rfl, h3, rfl, h4, trivial⟩
theorem tMa_2 {L n : Nat} {o r g : Int} (h0 : (decide (o ≥ 1)) = true) (h1 : (decide (o ≤ 8)) = true) (h2 : (decide (r ≥ 1)) = true) (h3 : (decide (r ≤ 8)) = false) : den ⟨fnOf, specAbs, L⟩ (n+1) 25 [.agg [.int .i64 o, .int .i64 r, .int .i64 g]] = some (.v (.bool false)) := by
  have hd : denD ⟨fnOf, specAbs, L⟩ n 25 [.agg [.int .i64 o, .int .i64 r, .int .i64 g]] [((some 6), (Dec.b true)), ((some 11), (Dec.b true)), ((some 16), (Dec.b true)), ((some 21), (Dec.b false))] = some ((.v (.bool false)), [(.st [0] [0]), (.b (decide (o ≥ 1)) true), (.st [0] [0]), (.b (decide (o ≤ 8)) true), (.st [0] [0]), (.b (decide (r ≥ 1)) true), (.st [0] [0]), (.b (decide (r ≤ 8)) false)]) := by kernel_rfl
  exact denD_sound hd ⟨rfl, h0, rfl, h1, rfl, h2, rfl, h3, trivial⟩
theorem tMa_3 {L n : Nat} {o r g : Int} (h0 : (decide (o ≥ 1)) = true) (h1 : (decide (o ≤ 8)) = true) (h2 : (decide (r ≥ 1)) = false) : den ⟨fnOf, specAbs, L⟩ (n+1) 25 [.agg [.int .i64 o, .int .i64 r, .int .i64 g]] = some (.v (.bool false)) := by
  have hd : denD ⟨fnOf, specAbs, L⟩ n 25 [.agg [.int .i64 o, .int .i64 r, .int .i64 g]] [((some 6), (Dec.b true)), ((some 11), (Dec.b true)), ((some 16), (Dec.b false))] = some ((.v (.bool false)), [(.st [0] [0]), (.b (decide (o ≥ 1)) true), (.st [0] [0]), (.b (decide (o ≤ 8)) true), (.st [0] [0]), (.b (decide (r ≥ 1)) false)]) := by kernel_rfl
  exact denD_sound hd ⟨rfl, h0, rfl, h1, rfl, h2, trivial⟩
theorem tMa_4 {L n : Nat} {o r g : Int} (h0 : (decide (o ≥ 1)) = true) (h1 : (decide (o ≤ 8)) = false) : den ⟨fnOf, specAbs, L⟩ (n+1) 25 [.agg [.int .i64 o, .int .i64 r, .int .i64 g]] = some (.v (.bool false)) := by
  have hd : denD ⟨fnOf, specAbs, L⟩ n 25 [.agg [.int .i64 o, .int .i64 r, .int .i64 g]] [((some 6), (Dec.b true)), ((some 11), (Dec.b false))] = some ((.v (.bool false)), [(.st [0] [0]), (.b (decide (o ≥ 1)) true), (.st [0] [0]), (.b (decide (o ≤ 8)) false)]) := by kernel_rfl
  exact denD_sound hd ⟨rfl, h0, rfl, h1, trivial⟩
theorem tMa_5 {L n : Nat} {o r g : Int} (h0 : (decide (o ≥ 1)) = false) : den ⟨fnOf, specAbs, L⟩ (n+1) 25 [.agg [.int .i64 o, .int .i64 r, .int .i64 g]] = some (.v (.bool false)) := by
  have hd : denD ⟨fnOf, specAbs, L⟩ n 25 [.agg [.int .i64 o, .int .i64 r, .int .i64 g]] [((some 6), (Dec.b false))] = some ((.v (.bool false)), [(.st [0] [0]), (.b (decide (o ≥ 1)) false)]) := by kernel_rfl
  exact denD_sound hd ⟨rfl, h0, trivial⟩


theorem tle_0 {L n : Nat} {o r g : Int} {c5 : Bool} (h0 : Con.holds ⟨fnOf, specAbs, L⟩ (runF ⟨fnOf, specAbs, L⟩ n) (.call 39 [(.agg [(.v (.int .i64 (o))), (.v (.int .i64 (r))), (.v (.int .i64 (g)))])] (.v (.bool (c5))))) (h1 : (!c5) = true) : den ⟨fnOf, specAbs, L⟩ (n+1) 15 [.agg [.int .i64 o, .int .i64 r, .int .i64 g]] = some (.tup [(.v (.int .i64 0)), (.v (.int .i64 1))]) := by
  have hd : denD ⟨fnOf, specAbs, L⟩ n 15 [.agg [.int .i64 o, .int .i64 r, .int .i64 g]] [((some 5), (Dec.call (.v (.bool (c5))))), ((some 6), (Dec.b true))] = some ((.tup [(.v (.int .i64 0)), (.v (.int .i64 1))]), [(.st [0] [0]), (.call 39 [(.agg [(.v (.int .i64 (o))), (.v (.int .i64 (r))), (.v (.int .i64 (g)))])] (.v (.bool (c5)))), (.b (!c5) true)]) := by kernel_rfl
  exact denD_sound hd ⟨rfl, h0, h1, trivial⟩
theorem tle_1 {L n : Nat} {o r g : Int} {c5 : Bool} {k8 : Int} (h0 : Con.holds ⟨fnOf, specAbs, L⟩ (runF ⟨fnOf, specAbs, L⟩ n) (.call 39 [(.agg [(.v (.int .i64 (o))), (.v (.int .i64 (r))), (.v (.int .i64 (g)))])] (.v (.bool (c5))))) (h1 : (!c5) = false) (h2 : Con.holds ⟨fnOf, specAbs, L⟩ (runF ⟨fnOf, specAbs, L⟩ n) (.call 40 [(.agg [(.v (.int .i64 (o))), (.v (.int .i64 (r))), (.v (.int .i64 (g)))])] (.v (.int .i64 (k8))))) : den ⟨fnOf, specAbs, L⟩ (n+1) 15 [.agg [.int .i64 o, .int .i64 r, .int .i64 g]] = some (.tup [(.v (.int .i64 (IntKind.wrap .i64 (2 * k8)))), (.v (.int .i64 0))]) := by
  have hd : denD ⟨fnOf, specAbs, L⟩ n 15 [.agg [.int .i64 o, .int .i64 r, .int .i64 g]] [((some 5), (Dec.call (.v (.bool (c5))))), ((some 6), (Dec.b false)), ((some 8), (Dec.call (.v (.int .i64 (k8)))))] = some ((.tup [(.v (.int .i64 (IntKind.wrap .i64 (2 * k8)))), (.v (.int .i64 0))]), [(.st [0] [0]), (.call 39 [(.agg [(.v (.int .i64 (o))), (.v (.int .i64 (r))), (.v (.int .i64 (g)))])] (.v (.bool (c5)))), (.b (!c5) false), (.st [0] [0]), (.call 40 [(.agg [(.v (.int .i64 (o))), (.v (.int .i64 (r))), (.v (.int .i64 (g)))])] (.v (.int .i64 (k8))))]) := by kernel_rfl
  exact denD_sound hd ⟨rfl, h0, h1, rfl, h2, trivial⟩
theorem tLe_0 {L n : Nat} {o r g : Int} {c5 : Bool} (h0 : Con.holds ⟨fnOf, specAbs, L⟩ (runF ⟨fnOf, specAbs, L⟩ n) (.call 25 [(.agg [(.v (.int .i64 (o))), (.v (.int .i64 (r))), (.v (.int .i64 (g)))])] (.v (.bool (c5))))) (h1 : (!c5) = true) : den ⟨fnOf, specAbs, L⟩ (n+1) 14 [.agg [.int .i64 o, .int .i64 r, .int .i64 g]] = some (.tup [(.v (.int .i64 0)), (.v (.int .i64 1))]) := by
  have hd : denD ⟨fnOf, specAbs, L⟩ n 14 [.agg [.int .i64 o, .int .i64 r, .int .i64 g]] [((some 5), (Dec.call (.v (.bool (c5))))), ((some 6), (Dec.b true))] = some ((.tup [(.v (.int .i64 0)), (.v (.int .i64 1))]), [(.st [0] [0]), (.call 25 [(.agg [(.v (.int .i64 (o))), (.v (.int .i64 (r))), (.v (.int .i64 (g)))])] (.v (.bool (c5)))), (.b (!c5) true)]) := by kernel_rfl
  exact denD_sound hd ⟨rfl, h0, h1, trivial⟩
theorem tLe_1 {L n : Nat} {o r g : Int} {c5 : Bool} {k8 : Int} (h0 : Con.holds ⟨fnOf, specAbs, L⟩ (runF ⟨fnOf, specAbs, L⟩ n) (.call 25 [(.agg [(.v (.int .i64 (o))), (.v (.int .i64 (r))), (.v (.int .i64 (g)))])] (.v (.bool (c5))))) (h1 : (!c5) = false) (h2 : Con.holds ⟨fnOf, specAbs, L⟩ (runF ⟨fnOf, specAbs, L⟩ n) (.call 38 [(.agg [(.v (.int .i64 (o))), (.v (.int .i64 (r))), (.v (.int .i64 (g)))])] (.v (.int .i64 (k8))))) : den ⟨fnOf, specAbs, L⟩ (n+1) 14 [.agg [.int .i64 o, .int .i64 r, .int .i64 g]] = some (.tup [(.v (.int .i64 (IntKind.wrap .i64 (2 * k8)))), (.v (.int .i64 0))]) := by
  have hd : denD ⟨fnOf, specAbs, L⟩ n 14 [.agg [.int .i64 o, .int .i64 r, .int .i64 g]] [((some 5), (Dec.call (.v (.bool (c5))))), ((some 6), (Dec.b false)), ((some 8), (Dec.call (.v (.int .i64 (k8)))))] = some ((.tup [(.v (.int .i64 (IntKind.wrap .i64 (2 * k8)))), (.v (.int .i64 0))]), [(.st [0] [0]), (.call 25 [(.agg [(.v (.int .i64 (o))), (.v (.int .i64 (r))), (.v (.int .i64 (g)))])] (.v (.bool (c5)))), (.b (!c5) false), (.st [0] [0]), (.call 38 [(.agg [(.v (.int .i64 (o))), (.v (.int .i64 (r))), (.v (.int .i64 (g)))])] (.v (.int .i64 (k8))))]) := by kernel_rfl
  exact denD_sound hd ⟨rfl, h0, h1, rfl, h2, trivial⟩
end Go.Proofs.Ytldkgfbgndkbdaa.Fw
