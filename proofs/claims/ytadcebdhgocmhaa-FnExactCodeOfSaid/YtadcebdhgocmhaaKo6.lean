/- Lemmas for the row. -/
import Derived.Test.YtadcebdhgocmhaaKo2
import Derived.Deep.RegionHeld3
namespace Go.Proofs.Ytadcebdhgocmhaa
open Go.RowKit
set_option linter.unusedVariables false
def inB (x a b : Int) : Bool := decide (a ≤ x) && decide (x ≤ b)
theorem spec_l01In (x a b : Int) (w : World) : Calls Try.prog 121 #[.int .i64 x, .int .i64 a, .int .i64 b] w fun e w' => e = .returned (.bool (inB x a b)) ∧ w = w' := by
  by_cases h : a ≤ x
  · go_enter Try.func121, Try.ntmps121
    go_wp2
    go_ret
    exact ⟨ret_bool (by simp only [inB, h, decide_true, Bool.true_and]), rfl⟩
  · have h' := decide_no h
    go_enter Try.func121, Try.ntmps121
    go_wp2
    go_ret
    exact ⟨ret_bool (by simp only [inB, h', Bool.false_and]), rfl⟩
theorem inB_yes {x a b : Int} (h : a ≤ x) (h' : x ≤ b) : inB x a b = true := by simp [inB, h, h']
theorem inB_no {x a b : Int} (h : x < a ∨ b < x) : inB x a b = false := by simp [inB]; omega
theorem inB_le {x a b : Int} (h : inB x a b = true) : a ≤ x ∧ x ≤ b := by simpa [inB] using h
end Go.Proofs.Ytadcebdhgocmhaa
