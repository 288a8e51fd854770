/- Several texts in one: Shapes. -/
import Derived.Test.YtdanlgmpgdipnaaDoorKd7
import Derived.Test.YtdanlgmpgdipnaaDoorKd28
import Derived.Test.YtdanlgmpgdipnaaDoorKd29
import Derived.Test.YtdanlgmpgdipnaaDoorKd31
namespace Go.Proofs.YtdanlgmpgdipnaaDoor
open Go.RowKit
set_option linter.unusedVariables false


end Go.Proofs.YtdanlgmpgdipnaaDoor
