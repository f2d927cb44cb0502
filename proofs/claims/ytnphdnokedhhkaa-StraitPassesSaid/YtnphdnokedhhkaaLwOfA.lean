/- the document's Plain, size, Times: paths, printed by a program of ours. -/
import Derived.Test.YtnphdnokedhhkaaFwY
import Derived.Test.YtnphdnokedhhkaaFwAbs
import Derived.Test.YtnphdnokedhhkaaFwW
import Derived.Test.YtnphdnokedhhkaaLwLdC
import Derived.KernelRfl
set_option maxRecDepth 100000
set_option maxHeartbeats 4000000
set_option linter.unusedSimpArgs false
set_option linter.unusedVariables false
namespace Go.Proofs.Ytnphdnokedhhkaa.Fw
open Go Go.RowKit

theorem qe_0 {L n x m : Nat} {k : Int} (h0 : (fge x (fneg m)) = true) (h1 : (!fle x m) = true) : den ⟨fnOf, specAbs, L⟩ (n+1) 59 [.flt x, .flt m] = some (.v (.bool false)) := by
  have hd : denD ⟨fnOf, specAbs, L⟩ n 59 [.flt x, .flt m] [((some 9), (Dec.b true)), ((some 14), (Dec.b true))] = some ((.v (.bool false)), [(.b (fge x (fneg m)) true), (.b (!fle x m) true)]) := by kernel_rfl
  exact denD_sound hd ⟨h0, h1, trivial⟩
theorem qe_1 {L n x m : Nat} {k : Int} (h0 : (fge x (fneg m)) = true) (h1 : (!fle x m) = false) (h2 : Con.holds ⟨fnOf, specAbs, L⟩ (runF ⟨fnOf, specAbs, L⟩ n) (.any 0 [15] (MO.mk (some 19) (MOp.conv (ConvK.toInt .i64) (Opd.t 18)) none []) [(18, (.flt (fmul x 4634204016564240384)))] [] (.v (.int .i64 (k))) [])) : den ⟨fnOf, specAbs, L⟩ (n+1) 59 [.flt x, .flt m] = some (.v (.bool (feq (fmul x 4634204016564240384) (fofInt k)))) := by
  have hd : denD ⟨fnOf, specAbs, L⟩ n 59 [.flt x, .flt m] [((some 9), (Dec.b true)), ((some 14), (Dec.b false)), ((some 19), (Dec.any (.v (.int .i64 (k))) []))] = some ((.v (.bool (feq (fmul x 4634204016564240384) (fofInt k)))), [(.b (fge x (fneg m)) true), (.b (!fle x m) false), (.any 0 [15] (MO.mk (some 19) (MOp.conv (ConvK.toInt .i64) (Opd.t 18)) none []) [(18, (.flt (fmul x 4634204016564240384)))] [] (.v (.int .i64 (k))) [])]) := by kernel_rfl
  exact denD_sound hd ⟨h0, h1, h2, trivial⟩
theorem qe_2 {L n x m : Nat} {k : Int} (h0 : (fge x (fneg m)) = false) : den ⟨fnOf, specAbs, L⟩ (n+1) 59 [.flt x, .flt m] = some (.v (.bool false)) := by
  have hd : denD ⟨fnOf, specAbs, L⟩ n 59 [.flt x, .flt m] [((some 9), (Dec.b false))] = some ((.v (.bool false)), [(.b (fge x (fneg m)) false)]) := by kernel_rfl
  exact denD_sound hd ⟨h0, trivial⟩
theorem qs_0 {L n x : Nat} (h0 : (flt x 0) = true) : den ⟨fnOf, specAbs, L⟩ (n+1) 60 [.flt x] = some (.flt (fneg x)) := by
  have hd : denD ⟨fnOf, specAbs, L⟩ n 60 [.flt x] [((some 4), (Dec.b true))] = some ((.flt (fneg x)), [(.b (flt x 0) true)]) := by kernel_rfl
  exact denD_sound hd ⟨h0, trivial⟩
theorem qs_1 {L n x : Nat} (h0 : (flt x 0) = false) : den ⟨fnOf, specAbs, L⟩ (n+1) 60 [.flt x] = some (.flt (x)) := by
  have hd : denD ⟨fnOf, specAbs, L⟩ n 60 [.flt x] [((some 4), (Dec.b false))] = some ((.flt (x)), [(.b (flt x 0) false)]) := by kernel_rfl
  exact denD_sound hd ⟨h0, trivial⟩
end Go.Proofs.Ytnphdnokedhhkaa.Fw
