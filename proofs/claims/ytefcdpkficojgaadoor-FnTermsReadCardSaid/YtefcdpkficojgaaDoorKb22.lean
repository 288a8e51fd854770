/- Several texts in one: TermMark, StmtMark. -/
import Derived.Test.YtefcdpkficojgaaDoorKb15
import Derived.Test.YtefcdpkficojgaaDoorKb16
namespace Go.Proofs.YtefcdpkficojgaaDoor
open Go.RowKit
set_option linter.unusedVariables false


theorem TmO.keepP : ∀ w w' G cells x, TmO w G cells x → (∀ b, G b → w'.heap[b]? = w.heap[b]?) → TmO w' G cells x := fun _ _ _ _ _ h hk => h.keep hk

end Go.Proofs.YtefcdpkficojgaaDoor
