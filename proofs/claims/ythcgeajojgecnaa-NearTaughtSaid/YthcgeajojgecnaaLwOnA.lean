/- grid.On and the document: paths, printed by a program of ours. -/
import Derived.Test.YthcgeajojgecnaaFwY
import Derived.Test.YthcgeajojgecnaaFwAbs
import Derived.Test.YthcgeajojgecnaaFwW
import Derived.Test.YthcgeajojgecnaaLwNrC
import Derived.Test.YthcgeajojgecnaaLwAd
import Derived.KernelRfl
set_option maxRecDepth 100000
set_option maxHeartbeats 4000000
set_option linter.unusedSimpArgs false
set_option linter.unusedVariables false
namespace Go.Proofs.Ythcgeajojgecnaa.Fw
open Go Go.RowKit

theorem gw_0 {L n : Nat} {x : Nat} (h0 : (fge x 13875590451928498176) = true) : den ⟨fnOf, specAbs, L⟩ (n+1) 113 [.flt x] = some (.v (.bool (fle x 4652218415073722368))) := by
  have hd : denD ⟨fnOf, specAbs, L⟩ n 113 [.flt x] [((some 5), (Dec.b true))] = some ((.v (.bool (fle x 4652218415073722368))), [(.b (fge x 13875590451928498176) true)]) := by kernel_rfl
  exact denD_sound hd ⟨h0, trivial⟩
theorem gw_1 {L n : Nat} {x : Nat} (h0 : (fge x 13875590451928498176) = false) : den ⟨fnOf, specAbs, L⟩ (n+1) 113 [.flt x] = some (.v (.bool false)) := by
  have hd : denD ⟨fnOf, specAbs, L⟩ n 113 [.flt x] [((some 5), (Dec.b false))] = some ((.v (.bool false)), [(.b (fge x 13875590451928498176) false)]) := by kernel_rfl
  exact denD_sound hd ⟨h0, trivial⟩
theorem gfl_0 {L n : Nat} {x : Nat}  : den ⟨fnOf, specAbs, L⟩ (n+1) 114 [.flt x] = some (.flt (fint Ieee.Toward.down x)) := by
  have hd : denD ⟨fnOf, specAbs, L⟩ n 114 [.flt x] [] = some ((.flt (fint Ieee.Toward.down x)), []) := by kernel_rfl
  exact denD_sound hd trivial
theorem gon_0 {L n : Nat} {x : Nat} {c4 : Bool} {y8 : Nat} (h0 : Con.holds ⟨fnOf, specAbs, L⟩ (runF ⟨fnOf, specAbs, L⟩ n) (.call 113 [(.flt (x))] (.v (.bool (c4))))) (h1 : (c4) = true) (h2 : Con.holds ⟨fnOf, specAbs, L⟩ (runF ⟨fnOf, specAbs, L⟩ n) (.call 114 [(.flt (fmul x 4661225614328463360))] (.flt (y8)))) : den ⟨fnOf, specAbs, L⟩ (n+1) 103 [.flt x] = some (.v (.bool (feq y8 (fmul x 4661225614328463360)))) := by
  have hd : denD ⟨fnOf, specAbs, L⟩ n 103 [.flt x] [((some 4), (Dec.call (.v (.bool (c4))))), ((some 5), (Dec.b true)), ((some 8), (Dec.call (.flt (y8))))] = some ((.v (.bool (feq y8 (fmul x 4661225614328463360)))), [(.call 113 [(.flt (x))] (.v (.bool (c4)))), (.b (c4) true), (.call 114 [(.flt (fmul x 4661225614328463360))] (.flt (y8)))]) := by kernel_rfl
  exact denD_sound hd ⟨h0, h1, h2, trivial⟩
theorem gon_1 {L n : Nat} {x : Nat} {c4 : Bool} (h0 : Con.holds ⟨fnOf, specAbs, L⟩ (runF ⟨fnOf, specAbs, L⟩ n) (.call 113 [(.flt (x))] (.v (.bool (c4))))) (h1 : (c4) = false) : den ⟨fnOf, specAbs, L⟩ (n+1) 103 [.flt x] = some (.v (.bool false)) := by
  have hd : denD ⟨fnOf, specAbs, L⟩ n 103 [.flt x] [((some 4), (Dec.call (.v (.bool (c4))))), ((some 5), (Dec.b false))] = some ((.v (.bool false)), [(.call 113 [(.flt (x))] (.v (.bool (c4)))), (.b (c4) false)]) := by kernel_rfl
  exact denD_sound hd ⟨h0, h1, trivial⟩
theorem gor_0 {L n : Nat} {x : Nat} {k : Int} (h0 : (fge x 13875590451928498176) = true) (h1 : (!fle x 4652218415073722368) = true) : den ⟨fnOf, specAbs, L⟩ (n+1) 93 [.flt x] = some (.v (.bool false)) := by
  have hd : denD ⟨fnOf, specAbs, L⟩ n 93 [.flt x] [((some 6), (Dec.b true)), ((some 10), (Dec.b true))] = some ((.v (.bool false)), [(.b (fge x 13875590451928498176) true), (.b (!fle x 4652218415073722368) true)]) := by kernel_rfl
  exact denD_sound hd ⟨h0, h1, trivial⟩
theorem gor_1 {L n : Nat} {x : Nat} {k : Int} (h0 : (fge x 13875590451928498176) = true) (h1 : (!fle x 4652218415073722368) = false) (h2 : Con.holds ⟨fnOf, specAbs, L⟩ (runF ⟨fnOf, specAbs, L⟩ n) (.any 0 [12] (MO.mk (some 14) (MOp.conv (ConvK.toInt .i64) (Opd.t 13)) none []) [(13, (.flt (fmul x 4661225614328463360)))] [] (.v (.int .i64 (k))) [])) : den ⟨fnOf, specAbs, L⟩ (n+1) 93 [.flt x] = some (.v (.bool (feq (fofInt k) (fmul x 4661225614328463360)))) := by
  have hd : denD ⟨fnOf, specAbs, L⟩ n 93 [.flt x] [((some 6), (Dec.b true)), ((some 10), (Dec.b false)), ((some 14), (Dec.any (.v (.int .i64 (k))) []))] = some ((.v (.bool (feq (fofInt k) (fmul x 4661225614328463360)))), [(.b (fge x 13875590451928498176) true), (.b (!fle x 4652218415073722368) false), (.any 0 [12] (MO.mk (some 14) (MOp.conv (ConvK.toInt .i64) (Opd.t 13)) none []) [(13, (.flt (fmul x 4661225614328463360)))] [] (.v (.int .i64 (k))) [])]) := by kernel_rfl
  exact denD_sound hd ⟨h0, h1, h2, trivial⟩
theorem gor_2 {L n : Nat} {x : Nat} {k : Int} (h0 : (fge x 13875590451928498176) = false) : den ⟨fnOf, specAbs, L⟩ (n+1) 93 [.flt x] = some (.v (.bool false)) := by
  have hd : denD ⟨fnOf, specAbs, L⟩ n 93 [.flt x] [((some 6), (Dec.b false))] = some ((.v (.bool false)), [(.b (fge x 13875590451928498176) false)]) := by kernel_rfl
  exact denD_sound hd ⟨h0, trivial⟩
end Go.Proofs.Ythcgeajojgecnaa.Fw
