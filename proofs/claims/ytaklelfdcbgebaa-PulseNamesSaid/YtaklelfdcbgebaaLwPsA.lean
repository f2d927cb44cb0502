/- pulse.plain and the document's Plain, size: their paths, printed by a program of ours. -/
import Derived.Test.YtaklelfdcbgebaaFwY
import Derived.Test.YtaklelfdcbgebaaFwAbs
import Derived.Test.YtaklelfdcbgebaaFwW
import Derived.Test.YtaklelfdcbgebaaFwGr
import Derived.KernelRfl
set_option maxRecDepth 100000
set_option maxHeartbeats 4000000
set_option linter.unusedSimpArgs false
set_option linter.unusedVariables false
namespace Go.Proofs.Ytaklelfdcbgebaa.Fw
open Go Go.RowKit

theorem pp_0 {L n x m : Nat} (h0 : (fle (absF x) m) = true) (h1 : Con.holds ⟨fnOf, specAbs, L⟩ (runF ⟨fnOf, specAbs, L⟩ n) (.call 44 [(.flt (fmul x 4634204016564240384))] (.flt (fint Ieee.Toward.zero (fmul x 4634204016564240384))))) : den ⟨fnOf, specAbs, L⟩ (n+1) 36 [.flt x, .flt m] = some (.v (.bool (feq (fint Ieee.Toward.zero (fmul x 4634204016564240384)) (fmul x 4634204016564240384)))) := by
  have hd : denD ⟨fnOf, specAbs, L⟩ n 36 [.flt x, .flt m] [((some 9), (Dec.b true)), ((some 12), (Dec.call (.flt (fint Ieee.Toward.zero (fmul x 4634204016564240384)))))] = some ((.v (.bool (feq (fint Ieee.Toward.zero (fmul x 4634204016564240384)) (fmul x 4634204016564240384)))), [(.b (fle (absF x) m) true), (.call 44 [(.flt (fmul x 4634204016564240384))] (.flt (fint Ieee.Toward.zero (fmul x 4634204016564240384))))]) := by kernel_rfl
  exact denD_sound hd ⟨h0, h1, trivial⟩
theorem pp_1 {L n x m : Nat} (h0 : (fle (absF x) m) = false) : den ⟨fnOf, specAbs, L⟩ (n+1) 36 [.flt x, .flt m] = some (.v (.bool false)) := by
  have hd : denD ⟨fnOf, specAbs, L⟩ n 36 [.flt x, .flt m] [((some 9), (Dec.b false))] = some ((.v (.bool false)), [(.b (fle (absF x) m) false)]) := by kernel_rfl
  exact denD_sound hd ⟨h0, trivial⟩
theorem ptr_0 {L n y : Nat}  : den ⟨fnOf, specAbs, L⟩ (n+1) 44 [.flt y] = some (.flt (fint Ieee.Toward.zero y)) := by
  have hd : denD ⟨fnOf, specAbs, L⟩ n 44 [.flt y] [] = some ((.flt (fint Ieee.Toward.zero y)), []) := by kernel_rfl
  exact denD_sound hd trivial
end Go.Proofs.Ytaklelfdcbgebaa.Fw
