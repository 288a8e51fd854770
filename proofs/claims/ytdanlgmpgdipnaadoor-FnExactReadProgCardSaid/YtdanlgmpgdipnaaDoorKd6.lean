/- Several texts in one: Arcs. -/
import Derived.Test.YtdanlgmpgdipnaaDoorKd4
import Derived.Deep.RegionHeld3
namespace Go.Proofs.YtdanlgmpgdipnaaDoor
open Go.RowKit
set_option linter.unusedVariables false


end Go.Proofs.YtdanlgmpgdipnaaDoor
