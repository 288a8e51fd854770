/- Several texts in one: Arcs. -/
import Derived.Test.YtefcdpkficojgaaDoorKb2
import Derived.Deep.RegionHeld3
namespace Go.Proofs.YtefcdpkficojgaaDoor
open Go.RowKit
set_option linter.unusedVariables false


def inB (x a b : Int) : Bool := decide (a ≤ x) && decide (x ≤ b)
theorem inB_yes {x a b : Int} (h : a ≤ x) (h' : x ≤ b) : inB x a b = true := by simp [inB, h, h']
theorem inB_no {x a b : Int} (h : x < a ∨ b < x) : inB x a b = false := by simp [inB]; omega
theorem inB_le {x a b : Int} (h : inB x a b = true) : a ≤ x ∧ x ≤ b := by simpa [inB] using h
end Go.Proofs.YtefcdpkficojgaaDoor
