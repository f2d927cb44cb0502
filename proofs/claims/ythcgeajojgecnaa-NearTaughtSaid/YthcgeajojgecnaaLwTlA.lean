/- train: may, half, Length and the document: paths, printed by a program of ours. -/
import Derived.Test.YthcgeajojgecnaaFwY
import Derived.Test.YthcgeajojgecnaaFwAbs
import Derived.Test.YthcgeajojgecnaaFwW
import Derived.Test.YthcgeajojgecnaaFwGr
import Derived.KernelRfl
set_option maxRecDepth 100000
set_option maxHeartbeats 4000000
set_option linter.unusedSimpArgs false
set_option linter.unusedVariables false
namespace Go.Proofs.Ythcgeajojgecnaa.Fw
open Go Go.RowKit

end Go.Proofs.Ythcgeajojgecnaa.Fw
