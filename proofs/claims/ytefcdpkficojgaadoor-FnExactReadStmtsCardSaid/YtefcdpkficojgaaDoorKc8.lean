/- Several texts in one: TermOk, TermOkLaw. -/
import Derived.Test.YtefcdpkficojgaaDoorKc6
import Derived.Test.YtefcdpkficojgaaDoorKc3
import Derived.Test.YtefcdpkficojgaaDoorKc7
namespace Go.Proofs.YtefcdpkficojgaaDoor
open Go.RowKit
set_option linter.unusedVariables false



end Go.Proofs.YtefcdpkficojgaaDoor
