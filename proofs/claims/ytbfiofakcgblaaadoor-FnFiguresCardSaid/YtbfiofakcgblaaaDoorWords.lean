/- Contracts of the small functions of chapters 1 and 2: what IsMark, Brought and the tests on bytes return. -/
import Derived.Test.YtbfiofakcgblaaaDoorBase
namespace Go.Proofs.YtbfiofakcgblaaaDoor
open Go.RowKit

/-- one of the marks -/
def isMarkL (l : List UInt8) : Bool :=
  l == [123] || l == [125] || l == [40] || l == [41] || l == [59] || l == [44] || l == [61] || l == [61, 61] || l == [60] || l == [43] || l == [45] || l == [42]
def brought (n least most : Int) : Int := if n < least ∨ most < least then least else if most < n then most else n
theorem impl_Brought (n l m : Int) (w : World) :
    Calls Tryd.prog 14 #[.int .i64 n, .int .i64 l, .int .i64 m] w fun e w' => e = .returned (.int .i64 (brought n l m)) ∧ w = w' := by
  go_enter Tryd.func14, Tryd.ntmps14
  go_wp2
  all_goals go_ret
  all_goals exact ⟨ret_int (by unfold brought; (repeat' split) <;> omega), rfl⟩
end Go.Proofs.YtbfiofakcgblaaaDoor
