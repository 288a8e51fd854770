/- Several texts in one: StmtMark. -/
import Derived.Test.YtefcdpkficojgaaDoorKa22
import Derived.Test.YtefcdpkficojgaaDoorKa31
namespace Go.Proofs.YtefcdpkficojgaaDoor
open Go.RowKit
set_option linter.unusedVariables false


end Go.Proofs.YtefcdpkficojgaaDoor
