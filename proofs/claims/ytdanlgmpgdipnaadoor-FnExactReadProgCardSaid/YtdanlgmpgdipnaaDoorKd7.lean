/- Several texts in one: TermOk, TermOkLaw. -/
import Derived.Test.YtdanlgmpgdipnaaDoorKd5
import Derived.Test.YtdanlgmpgdipnaaDoorKd3
import Derived.Test.YtdanlgmpgdipnaaDoorKd6
namespace Go.Proofs.YtdanlgmpgdipnaaDoor
open Go.RowKit
set_option linter.unusedVariables false



end Go.Proofs.YtdanlgmpgdipnaaDoor
