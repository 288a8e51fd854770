/- Several texts in one: Shapes. -/
import Derived.Test.YtefcdpkficojgaaDoorKc8
import Derived.Test.YtefcdpkficojgaaDoorKc31
import Derived.Test.YtefcdpkficojgaaDoorKc32
import Derived.Test.YtefcdpkficojgaaDoorKc34
namespace Go.Proofs.YtefcdpkficojgaaDoor
open Go.RowKit
set_option linter.unusedVariables false


end Go.Proofs.YtefcdpkficojgaaDoor
