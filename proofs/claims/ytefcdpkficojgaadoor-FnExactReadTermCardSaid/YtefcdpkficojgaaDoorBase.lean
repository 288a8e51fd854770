/- Small plain lemmas that the walks' ends use: two endings are equal when the values in them are. -/
import Derived.Test.YtefcdpkficojgaaDoorRows
import Derived.WalkKit
import Derived.WalkSpells
import Derived.WalkLawsBesides
import Derived.Lib.Hide
import Derived.Lib.Strings
namespace Go.Proofs.YtefcdpkficojgaaDoor
open Go.RowKit

theorem ret_int {k : IntKind} {a b : Int} (h : a = b) : Ending.returned (.int k a) = .returned (.int k b) := by rw [h]
theorem ret_bool {a b : Bool} (h : a = b) : Ending.returned (.bool a) = .returned (.bool b) := by rw [h]
theorem ret_str {a b : ByteArray} (h : a = b) : Ending.returned (.string a) = .returned (.string b) := by rw [h]
theorem size_list (s : ByteArray) : s.data.toList.length = s.size := by simp
theorem decide_no {p : Prop} [Decidable p] (h : ¬ p) : decide p = false := by simpa using h
theorem bool_no {b : Bool} (h : ¬ b = true) : b = false := by simpa using h

theorem str_ext {s t : ByteArray} (h : s.data.toList = t.data.toList) : s = t := by
  rcases s with ⟨⟨l⟩⟩; rcases t with ⟨⟨r⟩⟩; simp at h; rw [h]
theorem str_eq (s t : ByteArray) : (s.toList == t.toList) = decide (s = t) := by
  rw [Lib.toList_data, Lib.toList_data, Bool.eq_iff_iff]
  simp only [beq_iff_eq, decide_eq_true_eq]
  exact ⟨str_ext, fun h => by rw [h]⟩
theorem take_eq_succ {α : Type} {l r : List α} {k : Nat} (h : l.take k = r.take k) (h1 : k < l.length) (h2 : k < r.length) (e : l[k] = r[k]) : l.take (k + 1) = r.take (k + 1) := by
  have e1 : l.take (k + 1) = l.take k ++ [l[k]] := List.take_succ_eq_append_getElem h1
  have e2 : r.take (k + 1) = r.take k ++ [r[k]] := List.take_succ_eq_append_getElem h2
  rw [e1, e2, h, e]

end Go.Proofs.YtefcdpkficojgaaDoor
