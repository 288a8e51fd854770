/- The laws over Decimal and ReadDecimal. -/
import Derived.Test.YtefcdpkficojgaaDoorReadDec
namespace Go.Proofs.YtefcdpkficojgaaDoor
open Go.RowKit
set_option linter.unusedVariables false

/-- the library's table of powers lies as its initialiser lays it -/
def TabW (w : World) : Prop := Lib.TabIs Tryd.prog w "internal/strconv.uint64pow10" .u64 Lib.pow10Tab
theorem TabW.below {w w' : World} (h : TabW w) (hb : Below w.heap.size w w') : TabW w' := by
  unfold TabW Lib.TabIs World.var? at *
  cases hg : Tryd.prog.globalNamed "internal/strconv.uint64pow10" with
  | none => simp [hg] at h
  | some g =>
    simp only [hg, Option.bind_some] at h ⊢
    have hlt : g < w.heap.size := by
      rcases Nat.lt_or_ge g w.heap.size with h1 | h1
      · exact h1
      · rw [Array.getElem?_eq_none h1] at h; simp at h
    rw [hb.block g hlt]
    exact h
end Go.Proofs.YtefcdpkficojgaaDoor
