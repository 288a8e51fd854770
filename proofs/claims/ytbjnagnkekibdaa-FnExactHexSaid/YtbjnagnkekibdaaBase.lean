/- Small plain lemmas that the walks' ends use: two endings are equal when the values in them are. -/
import Derived.Test.YtbjnagnkekibdaaRows
import Derived.WalkKit
import Derived.WalkSpells
import Derived.WalkLawsBesides
import Derived.Lib.Hide
import Derived.Lib.Strings
namespace Go.Proofs.Ytbjnagnkekibdaa
open Go.RowKit

theorem ret_int {k : IntKind} {a b : Int} (h : a = b) : Ending.returned (.int k a) = .returned (.int k b) := by rw [h]
theorem ret_bool {a b : Bool} (h : a = b) : Ending.returned (.bool a) = .returned (.bool b) := by rw [h]
theorem ret_str {a b : ByteArray} (h : a = b) : Ending.returned (.string a) = .returned (.string b) := by rw [h]
theorem size_list (s : ByteArray) : s.data.toList.length = s.size := by simp
theorem decide_no {p : Prop} [Decidable p] (h : ¬ p) : decide p = false := by simpa using h
theorem bool_no {b : Bool} (h : ¬ b = true) : b = false := by simpa using h

end Go.Proofs.Ytbjnagnkekibdaa
