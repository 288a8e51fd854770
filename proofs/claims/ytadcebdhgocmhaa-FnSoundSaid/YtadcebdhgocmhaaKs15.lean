/- Several texts in one: Hex, Mark. -/
import Derived.Test.YtadcebdhgocmhaaKs1
import Derived.StillTailTactics
import Derived.Deep.RegionHeld3
import Derived.Test.YtadcebdhgocmhaaKs4
namespace Go.Proofs.Ytadcebdhgocmhaa
open Go.RowKit
set_option linter.unusedVariables false



/-- v is the call's own row of the texts ss -/
def OwnStrs (w0 w : World) (v : Value) (ss : List ByteArray) : Prop := Own w0 w 9 1 v ss.length (ss.map Value.string)
theorem OwnStrs.is {w0 w : World} {v : Value} {ss : List ByteArray} (h : OwnStrs w0 w v ss) : ∃ A c, v = .slice A ss.length c ∧ ss.length ≤ c ∧ Rd w 1 A ss.length (ss.map Value.string) := by
  obtain ⟨A, c, e, hc⟩ := h.slice
  subst e
  exact ⟨A, c, rfl, hc, h.rd⟩
theorem OwnStrs.below {w0 w w' : World} {v : Value} {ss : List ByteArray} (h : OwnStrs w0 w v ss) (hb : Below w.heap.size w w') : OwnStrs w0 w' v ss := Own.below h hb
theorem own_cap {w : World} {base : Nat} {e : TypeId} {sz n c : Nat} {A : Option Addr} {xs : List Value} (h : w.ownsRow base e sz (.slice A n c) n xs) : c ≤ maxLen := by
  rcases h.2 with ⟨h1, _⟩ | ⟨g, cap, cur, h1, _, _, _, hm, _⟩
  · injection h1 with _ _ h2; subst h2; simp [maxLen]
  · injection h1 with _ _ h2; subst h2; exact hm
theorem OwnStrs.isStrs {w0 w : World} {v : Value} {ss : List ByteArray} (h : OwnStrs w0 w v ss) : IsStrs w v ss := by
  obtain ⟨A, c, e, hc⟩ := h.slice
  subst e
  exact ⟨A, c, rfl, hc, own_cap h.1, h.rd⟩
end Go.Proofs.Ytadcebdhgocmhaa
