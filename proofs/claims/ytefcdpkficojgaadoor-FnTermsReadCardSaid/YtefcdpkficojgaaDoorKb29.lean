/- Several texts in one: StSay. -/
import Derived.Test.YtefcdpkficojgaaDoorKb24
import Derived.Test.YtefcdpkficojgaaDoorKb28
import Derived.Deep.CutRange
namespace Go.Proofs.YtefcdpkficojgaaDoor
open Go.RowKit
set_option linter.unusedVariables false


end Go.Proofs.YtefcdpkficojgaaDoor
