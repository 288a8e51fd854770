/- Several texts in one: LexSpec. -/
import Derived.Test.YtefcdpkficojgaaDoorKb38
import Derived.Test.YtefcdpkficojgaaDoorKb34
namespace Go.Proofs.YtefcdpkficojgaaDoor
open Go.RowKit
set_option linter.unusedVariables false


end Go.Proofs.YtefcdpkficojgaaDoor
