/- Several texts in one: StmtSz. -/
import Derived.Test.YtefcdpkficojgaaDoorKa17
import Derived.Test.YtefcdpkficojgaaDoorKa8
namespace Go.Proofs.YtefcdpkficojgaaDoor
open Go.RowKit
set_option linter.unusedVariables false


end Go.Proofs.YtefcdpkficojgaaDoor
