/- Contracts of the small functions of chapters 1 and 2: what IsMark, Brought and the tests on bytes return. -/
import Derived.Test.YtbjnagnkekibdaaBase
namespace Go.Proofs.Ytbjnagnkekibdaa
open Go.RowKit

/-- one of the marks -/
def isMarkL (l : List UInt8) : Bool :=
  l == [123] || l == [125] || l == [40] || l == [41] || l == [59] || l == [44] || l == [61] || l == [61, 61] || l == [60] || l == [43] || l == [45] || l == [42]
set_option maxHeartbeats 400000 in
theorem spec_IsMark (s : ByteArray) (w : World) :
    Calls Try.prog 15 #[.string s] w fun e w' => e = .returned (.bool (isMarkL s.toList)) ∧ w = w' := by
  go_enter Try.func15, Try.ntmps15
  go_wp2
  all_goals go_ret
  all_goals exact ⟨by simp_all [isMarkL], rfl⟩
set_option maxHeartbeats 400000 in
theorem impl_IsMark (s : ByteArray) (w : World) :
    Calls Try.prog 16 #[.string s] w fun e w' => e = .returned (.bool (isMarkL s.toList)) ∧ w = w' := by
  go_enter Try.func16, Try.ntmps16
  go_wp2
  all_goals go_ret
  all_goals exact ⟨by simp_all [isMarkL], rfl⟩
def brought (n least most : Int) : Int := if n < least ∨ most < least then least else if most < n then most else n
theorem spec_Brought (n l m : Int) (w : World) :
    Calls Try.prog 17 #[.int .i64 n, .int .i64 l, .int .i64 m] w fun e w' => e = .returned (.int .i64 (brought n l m)) ∧ w = w' := by
  go_enter Try.func17, Try.ntmps17
  go_wp2
  all_goals go_ret
  all_goals exact ⟨ret_int (by unfold brought; (repeat' split) <;> omega), rfl⟩
theorem impl_Brought (n l m : Int) (w : World) :
    Calls Try.prog 18 #[.int .i64 n, .int .i64 l, .int .i64 m] w fun e w' => e = .returned (.int .i64 (brought n l m)) ∧ w = w' := by
  go_enter Try.func18, Try.ntmps18
  go_wp2
  all_goals go_ret
  all_goals exact ⟨ret_int (by unfold brought; (repeat' split) <;> omega), rfl⟩
theorem law_IsMark (s : ByteArray) (w : World) (_hs : s.size ≤ maxLen) :
    Calls Try.prog 4 #[.string s] w fun e w' => e = .returned (.bool true) ∧ Below w.heap.size w w' := by
  go_enter Try.func4, Try.ntmps4
  go_wp2_with (first | (go_at_call 15; refine (spec_IsMark _ _).mono ?_; rintro e w' ⟨rfl, rfl⟩) | (go_at_call 16; refine (impl_IsMark _ _).mono ?_; rintro e w' ⟨rfl, rfl⟩))
  all_goals go_ret
  all_goals exact ⟨ret_bool (by simp_all), Below.refl _ _⟩
theorem law_Brought (n l m : Int) (w : World) (_ : (Lit.int .i64 n).wf = true) (_ : (Lit.int .i64 l).wf = true) (_ : (Lit.int .i64 m).wf = true) :
    Calls Try.prog 5 #[.int .i64 n, .int .i64 l, .int .i64 m] w fun e w' => e = .returned (.bool true) ∧ Below w.heap.size w w' := by
  go_enter Try.func5, Try.ntmps5
  go_wp2_with (first | (go_at_call 17; refine (spec_Brought _ _ _ _).mono ?_; rintro e w' ⟨rfl, rfl⟩) | (go_at_call 18; refine (impl_Brought _ _ _ _).mono ?_; rintro e w' ⟨rfl, rfl⟩))
  all_goals go_ret
  all_goals exact ⟨ret_bool (by simp_all), Below.refl _ _⟩
theorem law_Constants (w : World) :
    Calls Try.prog 3 #[] w fun e w' => e = .returned (.bool true) ∧ Below w.heap.size w w' := by
  go_enter Try.func3, Try.ntmps3
  go_wp2
  all_goals go_ret
  all_goals exact ⟨rfl, Below.refl _ _⟩
end Go.Proofs.Ytbjnagnkekibdaa
