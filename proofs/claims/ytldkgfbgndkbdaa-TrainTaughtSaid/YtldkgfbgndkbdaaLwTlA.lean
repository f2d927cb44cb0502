/- train: may, half, Length and the document: paths, printed by a program of ours. -/
import Derived.Test.YtldkgfbgndkbdaaFwY
import Derived.Test.YtldkgfbgndkbdaaFwAbs
import Derived.Test.YtldkgfbgndkbdaaFwW
import Derived.Test.YtldkgfbgndkbdaaFwGr
import Derived.KernelRfl
set_option maxRecDepth 100000
set_option maxHeartbeats 4000000
set_option linter.unusedSimpArgs false
set_option linter.unusedVariables false
namespace Go.Proofs.Ytldkgfbgndkbdaa.Fw
open Go Go.RowKit

end Go.Proofs.Ytldkgfbgndkbdaa.Fw
