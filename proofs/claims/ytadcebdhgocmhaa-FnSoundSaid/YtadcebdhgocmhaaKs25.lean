/- Several texts in one: StmtMark. -/
import Derived.Test.YtadcebdhgocmhaaKs17
import Derived.Test.YtadcebdhgocmhaaKs24
namespace Go.Proofs.Ytadcebdhgocmhaa
open Go.RowKit
set_option linter.unusedVariables false


end Go.Proofs.Ytadcebdhgocmhaa
