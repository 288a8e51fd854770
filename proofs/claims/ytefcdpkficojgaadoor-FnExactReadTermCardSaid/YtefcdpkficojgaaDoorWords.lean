/- Contracts of the small functions of chapters 1 and 2: what IsMark, Brought and the tests on bytes return. -/
import Derived.Test.YtefcdpkficojgaaDoorBase
namespace Go.Proofs.YtefcdpkficojgaaDoor
open Go.RowKit

/-- one of the marks -/
def isMarkL (l : List UInt8) : Bool :=
  l == [123] || l == [125] || l == [40] || l == [41] || l == [59] || l == [44] || l == [61] || l == [61, 61] || l == [60] || l == [43] || l == [45] || l == [42]
set_option maxHeartbeats 400000 in
theorem spec_IsMark (s : ByteArray) (w : World) :
    Calls Tryd.prog 185 #[.string s] w fun e w' => e = .returned (.bool (isMarkL s.toList)) ∧ w = w' := by
  go_enter Tryd.func185, Tryd.ntmps185
  go_wp2
  all_goals go_ret
  all_goals exact ⟨by simp_all [isMarkL], rfl⟩
set_option maxHeartbeats 400000 in
theorem impl_IsMark (s : ByteArray) (w : World) :
    Calls Tryd.prog 216 #[.string s] w fun e w' => e = .returned (.bool (isMarkL s.toList)) ∧ w = w' := by
  go_enter Tryd.func216, Tryd.ntmps216
  go_wp2
  all_goals go_ret
  all_goals exact ⟨by simp_all [isMarkL], rfl⟩
def brought (n least most : Int) : Int := if n < least ∨ most < least then least else if most < n then most else n
end Go.Proofs.YtefcdpkficojgaaDoor
