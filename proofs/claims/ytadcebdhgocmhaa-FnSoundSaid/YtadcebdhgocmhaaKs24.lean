/- Several texts in one: TermMark. -/
import Derived.Test.YtadcebdhgocmhaaKs16
namespace Go.Proofs.Ytadcebdhgocmhaa
open Go.RowKit
set_option linter.unusedVariables false


mutual
theorem nodes_tot : (t : Tm) → nodes t ≤ 1 + totT t
  | .mk k n s kids => by rw [nodes, totT]; have := nodess_tot kids; omega
theorem nodess_tot : (l : List Tm) → nodess l ≤ totTs l
  | [] => by simp [nodess, totTs]
  | t :: r => by rw [nodess, totTs]; have := nodes_tot t; have := nodess_tot r; omega
end
theorem TmO.keepP : ∀ w w' G cells x, TmO w G cells x → (∀ b, G b → w'.heap[b]? = w.heap[b]?) → TmO w' G cells x := fun _ _ _ _ _ h hk => h.keep hk
end Go.Proofs.Ytadcebdhgocmhaa
