/- Whether texts are names, and how many: the reference's l05Names, the program's areNames. -/
import Derived.Test.YtefcdpkficojgaaDoorNames
import Derived.Test.YtefcdpkficojgaaDoorStrs
namespace Go.Proofs.YtefcdpkficojgaaDoor
open Go.RowKit
set_option linter.unusedVariables false

def nameB (s : ByteArray) : Bool := isNameL s.data.toList
def namesB (m : Nat) (ss : List ByteArray) : Bool := decide (ss.length ≤ m) && ss.all nameB
theorem namesB_far {m : Nat} {ss : List ByteArray} (h : m < ss.length) : namesB m ss = false := by
  unfold namesB; rw [decide_no (by omega)]; rfl
theorem namesB_no {m j : Nat} {ss : List ByteArray} (hj : j < ss.length) (h : isNameL ss[j].data.toList = false) : namesB m ss = false := by
  unfold namesB
  rw [show ss.all nameB = false from List.all_eq_false.2 ⟨ss[j], List.getElem_mem hj, by unfold nameB; simp [h]⟩, Bool.and_false]
theorem namesB_yes {m : Nat} {ss : List ByteArray} (h : ss.length ≤ m) (h2 : ss.all nameB = true) : namesB m ss = true := by
  unfold namesB; rw [h2, decide_eq_true h]; rfl
theorem all_next {α : Type} {f : α → Bool} {l : List α} {j : Nat} (hj : j < l.length) (h : (l.take j).all f = true) (e : f l[j] = true) : (l.take (j + 1)).all f = true := by
  have e1 : l.take (j + 1) = l.take j ++ [l[j]] := List.take_succ_eq_append_getElem hj
  rw [e1, List.all_append, h]; simp [e]
theorem all_not {α : Type} {f : α → Bool} {l : List α} {j : Nat} (hj : j < l.length) (e : f l[j] = false) : l.all f = false := List.all_eq_false.2 ⟨l[j], List.getElem_mem hj, by simp [e]⟩
set_option maxHeartbeats 400000 in
theorem spec_l05Names (ss : List ByteArray) (A : Option Addr) (c m : Nat) (w : World) (rd : Rd w 1 A ss.length (ss.map Value.string)) (hl : ss.length ≤ c) (hc : c ≤ maxLen) :
    Calls Tryd.prog 172 #[.slice A ss.length c, .int .i64 (m : Int)] w fun e w' => e = .returned (.bool (namesB m ss)) ∧ w = w' := by
  unfold maxLen at hc
  have RD := Lib.hid rd
  clear rd
  by_cases hf : m < ss.length
  · rw [namesB_far hf]
    go_enter Tryd.func172, Tryd.ntmps172
    go_wp2_with fail
    go_ret
    exact ⟨rfl, rfl⟩
  go_enter Tryd.func172, Tryd.ntmps172
  go_wp2_with fail
  go_loop [5] (fun i => ∃ k : Nat, k ≤ ss.length ∧ i = .int .i64 k ∧ Hid ((ss.take k).all nameB = true)) (fun i => ss.length - (intOf i).toNat)
  case atStart => exact ⟨0, Nat.zero_le _, rfl, Lib.hid (by simp)⟩
  case round =>
    obtain ⟨k, hk, rfl, HT⟩ := hrel
    by_cases hlt : k < ss.length
    · obtain ⟨b, off, rfl, hcell⟩ := rd_str RD.out hlt
      have h0k : (0 : Int) ≤ (k : Int) := by omega
      cases hn : isNameL ss[k].data.toList with
      | false =>
        have F := Lib.hid (namesB_no (m := m) hlt hn)
        have HN := Lib.hid hn
        clear hn
        go_wp2_with (go_at_call 173; refine (spec_IsName _ _).mono ?_; rintro e w' ⟨rfl, rfl⟩; rw [HN.out])
        go_ret
        exact ⟨ret_bool F.out.symm, rfl⟩
      | true =>
        have T := Lib.hid (all_next hlt HT.out (by unfold nameB; exact hn))
        have HN := Lib.hid hn
        clear hn
        go_wp2_with (go_at_call 173; refine (spec_IsName _ _).mono ?_; rintro e w' ⟨rfl, rfl⟩; rw [HN.out])
        go_round
        case rel => exact ⟨k + 1, by omega, by go_num, T⟩
        case measure => simp [intOf]; omega
    · have T : Hid (namesB m ss = true) := Lib.hid (namesB_yes (by omega) (by have := HT.out; rwa [List.take_of_length_le (by omega)] at this))
      go_wp2_with fail
      go_ret
      exact ⟨ret_bool T.out.symm, rfl⟩
set_option maxHeartbeats 400000 in
theorem impl_areNames (ss : List ByteArray) (A : Option Addr) (c m : Nat) (w : World) (rd : Rd w 1 A ss.length (ss.map Value.string)) (hl : ss.length ≤ c) (hc : c ≤ maxLen) :
    Calls Tryd.prog 175 #[.slice A ss.length c, .int .i64 (m : Int)] w fun e w' => e = .returned (.bool (namesB m ss)) ∧ w = w' := by
  unfold maxLen at hc
  have RD := Lib.hid rd
  clear rd
  by_cases hf : m < ss.length
  · rw [namesB_far hf]
    go_enter Tryd.func175, Tryd.ntmps175
    go_wp2_with fail
    go_ret
    exact ⟨rfl, rfl⟩
  go_enter Tryd.func175, Tryd.ntmps175
  go_wp2_with fail
  go_loop [13] (fun i => ∃ k : Nat, k ≤ ss.length ∧ i = .int .i64 k ∧ Hid ((ss.take k).all nameB = true)) (fun i => ss.length - (intOf i).toNat)
  case atStart => exact ⟨0, Nat.zero_le _, rfl, Lib.hid (by simp)⟩
  case round =>
    obtain ⟨k, hk, rfl, HT⟩ := hrel
    by_cases hlt : k < ss.length
    · obtain ⟨b, off, rfl, hcell⟩ := rd_str RD.out hlt
      have h0k : (0 : Int) ≤ (k : Int) := by omega
      cases hn : isNameL ss[k].data.toList with
      | false =>
        have F := Lib.hid (namesB_no (m := m) hlt hn)
        have HN := Lib.hid hn
        clear hn
        go_wp2_with (go_at_call 27; refine (impl_IsName _ _).mono ?_; rintro e w' ⟨rfl, rfl⟩; rw [HN.out])
        go_ret
        exact ⟨ret_bool F.out.symm, rfl⟩
      | true =>
        have T := Lib.hid (all_next hlt HT.out (by unfold nameB; exact hn))
        have HN := Lib.hid hn
        clear hn
        go_wp2_with (go_at_call 27; refine (impl_IsName _ _).mono ?_; rintro e w' ⟨rfl, rfl⟩; rw [HN.out])
        go_round
        case rel => exact ⟨k + 1, by omega, by go_num, T⟩
        case measure => simp [intOf]; omega
    · have T : Hid (namesB m ss = true) := Lib.hid (namesB_yes (by omega) (by have := HT.out; rwa [List.take_of_length_le (by omega)] at this))
      go_wp2_with fail
      go_ret
      exact ⟨ret_bool T.out.symm, rfl⟩
end Go.Proofs.YtefcdpkficojgaaDoor
