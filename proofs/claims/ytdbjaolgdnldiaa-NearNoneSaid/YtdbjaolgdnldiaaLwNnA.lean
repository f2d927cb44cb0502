/- NearNone: the law's own run (closed). -/
import Derived.Test.YtdbjaolgdnldiaaFwY
import Derived.Test.YtdbjaolgdnldiaaFwAbs
import Derived.Test.YtdbjaolgdnldiaaFwW
import Derived.KernelRfl
set_option maxRecDepth 100000
namespace Go.Proofs.Ytdbjaolgdnldiaa.Fw
open Go Go.RowKit
theorem none15 : den ⟨fnOf, specAbs, 70000⟩ 40 8 [] = some (.v (.bool true)) := by kernel_rfl
end Go.Proofs.Ytdbjaolgdnldiaa.Fw
