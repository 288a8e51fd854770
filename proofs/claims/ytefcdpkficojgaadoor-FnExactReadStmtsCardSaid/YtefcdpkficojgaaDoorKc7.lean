/- Several texts in one: Arcs. -/
import Derived.Test.YtefcdpkficojgaaDoorKc4
import Derived.Deep.RegionHeld3
namespace Go.Proofs.YtefcdpkficojgaaDoor
open Go.RowKit
set_option linter.unusedVariables false


end Go.Proofs.YtefcdpkficojgaaDoor
