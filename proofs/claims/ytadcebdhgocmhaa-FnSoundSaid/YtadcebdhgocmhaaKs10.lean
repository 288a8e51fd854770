/- Several texts in one: Names. -/
import Derived.Test.YtadcebdhgocmhaaKs1
namespace Go.Proofs.Ytadcebdhgocmhaa
open Go.RowKit
set_option linter.unusedVariables false


def smallB (n : Int) : Bool := decide (97 ≤ n) && decide (n ≤ 122)
def figB (n : Int) : Bool := decide (48 ≤ n) && decide (n ≤ 57)
def okC (c : UInt8) : Bool := smallB c.toNat || figB c.toNat
def wordL (l : List UInt8) : Bool := decide (1 ≤ l.length) && decide (l.length ≤ 12) && smallB ((l[0]?.getD 0).toNat : Int) && l.all okC
def keyL (l : List UInt8) : Bool :=
  l == [97, 110, 100] || l == [99, 97, 108, 108] || l == [101, 108, 115, 101] || l == [103, 108, 111, 98, 97, 108, 115] || l == [105, 102] || l == [108, 111, 99, 107] || l == [108, 111, 99, 107, 115] || l == [110, 111, 116] || l == [112, 114, 111, 99] || l == [115, 107, 105, 112] || l == [115, 112, 97, 119, 110] || l == [117, 110, 108, 111, 99, 107] || l == [119, 104, 105, 108, 101]
def isNameL (l : List UInt8) : Bool := wordL l && !keyL l

theorem all_snoc (s : ByteArray) (k : Nat) (h : k < s.size) : (s.data.toList.take (k + 1)).all okC = ((s.data.toList.take k).all okC && (smallB ((s[k]).toNat : Int) || figB ((s[k]).toNat : Int))) := by
  rw [List.take_succ_eq_append_getElem (by simpa using h), List.all_append]
  simp [okC]
  rfl
theorem first_of (s : ByteArray) (h : 0 < s.size) : s.data.toList[0]?.getD 0 = s[0] := by
  rw [List.getElem?_eq_getElem (by simpa using h)]; rfl
theorem word_none (l : List UInt8) (h : l.length = 0) : wordL l = false := by simp [wordL, h]
theorem word_long (l : List UInt8) (h : 12 < l.length) : wordL l = false := by
  have : decide (l.length ≤ 12) = false := decide_no (by omega)
  simp only [wordL, this, Bool.and_false, Bool.false_and]
theorem word_head (l : List UInt8) (c : UInt8) (e : l[0]?.getD 0 = c) (h : smallB (c.toNat : Int) = false) : wordL l = false := by
  simp only [wordL, e, h, Bool.and_false, Bool.false_and]
theorem word_all (l : List UInt8) (c : UInt8) (e : l[0]?.getD 0 = c) (h : smallB (c.toNat : Int) = true) (h1 : 1 ≤ l.length) (h2 : l.length ≤ 12) : wordL l = l.all okC := by
  simp only [wordL, e, h, h1, h2, decide_true, Bool.true_and]
/-- a byte that is none: the word is none -/
theorem all_no (s : ByteArray) (k : Nat) (h : k < s.size) (hc : (smallB ((s[k]).toNat : Int) || figB ((s[k]).toNat : Int)) = false) : s.data.toList.all okC = false := by
  have e : s.data.toList = s.data.toList.take (k + 1) ++ s.data.toList.drop (k + 1) := by simp
  rw [e, List.all_append, all_snoc s k h, hc]; simp
theorem impl_isSmall (b : Int) (w : World) : Calls Try.prog 96 #[.int .u8 b] w fun e w' => e = .returned (.bool (smallB b)) ∧ w = w' := by
  by_cases h : 97 ≤ b
  · go_enter Try.func96, Try.ntmps96
    go_wp2
    go_ret
    exact ⟨ret_bool (by simp only [smallB, h, decide_true, Bool.true_and]), rfl⟩
  · have h' : decide (97 ≤ b) = false := by simpa using h
    go_enter Try.func96, Try.ntmps96
    go_wp2
    go_ret
    exact ⟨ret_bool (by simp only [smallB, h', Bool.false_and]), rfl⟩
theorem impl_isFigure (b : Int) (w : World) : Calls Try.prog 97 #[.int .u8 b] w fun e w' => e = .returned (.bool (figB b)) ∧ w = w' := by
  by_cases h : 48 ≤ b
  · go_enter Try.func97, Try.ntmps97
    go_wp2
    go_ret
    exact ⟨ret_bool (by simp only [figB, h, decide_true, Bool.true_and]), rfl⟩
  · have h' : decide (48 ≤ b) = false := by simpa using h
    go_enter Try.func97, Try.ntmps97
    go_wp2
    go_ret
    exact ⟨ret_bool (by simp only [figB, h', Bool.false_and]), rfl⟩
theorem spec_l02Letter (b : Int) (w : World) : Calls Try.prog 111 #[.int .u8 b] w fun e w' => e = .returned (.bool (smallB b)) ∧ w = w' := by
  by_cases h : 97 ≤ b
  · go_enter Try.func111, Try.ntmps111
    go_wp2
    go_ret
    exact ⟨ret_bool (by simp only [smallB, h, decide_true, Bool.true_and]), rfl⟩
  · have h' : decide (97 ≤ b) = false := by simpa using h
    go_enter Try.func111, Try.ntmps111
    go_wp2
    go_ret
    exact ⟨ret_bool (by simp only [smallB, h', Bool.false_and]), rfl⟩
theorem spec_l02Figure (b : Int) (w : World) : Calls Try.prog 112 #[.int .u8 b] w fun e w' => e = .returned (.bool (figB b)) ∧ w = w' := by
  by_cases h : 48 ≤ b
  · go_enter Try.func112, Try.ntmps112
    go_wp2
    go_ret
    exact ⟨ret_bool (by simp only [figB, h, decide_true, Bool.true_and]), rfl⟩
  · have h' : decide (48 ≤ b) = false := by simpa using h
    go_enter Try.func112, Try.ntmps112
    go_wp2
    go_ret
    exact ⟨ret_bool (by simp only [figB, h', Bool.false_and]), rfl⟩
set_option maxHeartbeats 400000 in
theorem spec_l02Word (s : ByteArray) (w : World) : Calls Try.prog 100 #[.string s] w fun e w' => e = .returned (.bool (wordL s.data.toList)) ∧ w = w' := by
  have hl := size_list s
  by_cases h0 : s.size = 0
  · have F : Hid (wordL s.data.toList = false) := word_none _ (by omega)
    have h1 : ((s.size : Int) == 0) = true := by simp [h0]
    clear h0 hl
    go_enter Try.func100, Try.ntmps100
    go_wp2_with fail
    go_ret
    exact ⟨ret_bool (by rw [F.out]), rfl⟩
  have h1 : ((s.size : Int) == 0) = false := by simp [h0]
  by_cases h2 : 12 < s.size
  · have F : Hid (wordL s.data.toList = false) := word_long _ (by omega)
    clear hl
    go_enter Try.func100, Try.ntmps100
    go_wp2_with fail
    go_ret
    exact ⟨ret_bool (by rw [F.out]), rfl⟩
  have h3 : 0 < s.size := by omega
  have hf := first_of s h3
  by_cases h4 : smallB ((s[0]).toNat : Int) = true
  · have F : Hid (wordL s.data.toList = s.data.toList.all okC) := word_all _ _ hf h4 (by omega) (by omega)
    clear hl hf
    go_enter Try.func100, Try.ntmps100
    go_wp2_with (go_at_call 111; refine (spec_l02Letter _ _).mono ?_; rintro e w' ⟨rfl, rfl⟩)
    go_loop [3] (fun i => ∃ k : Nat, k ≤ s.size ∧ i = .int .i64 k ∧ (s.data.toList.take k).all okC = true) (fun i => s.size - (intOf i).toNat)
    case atStart => exact ⟨0, Nat.zero_le _, rfl, rfl⟩
    case round =>
      obtain ⟨k, hk, rfl, hall⟩ := hrel
      have HA := Lib.hid hall
      clear hall
      by_cases hlt : k < s.size
      · have HS := Lib.hid (all_snoc s k hlt)
        have HN := Lib.hid (all_no s k hlt)
        by_cases c1 : smallB ((s[k]).toNat : Int) = true
        · go_wp2_with (go_at_call 111; refine (spec_l02Letter _ _).mono ?_; rintro e w' ⟨rfl, rfl⟩)
          go_round
          case rel => exact ⟨k + 1, by omega, by go_num, by rw [HS.out, HA.out, c1]; rfl⟩
          case measure => simp [intOf]; omega
        · have c1' : smallB ((s[k]).toNat : Int) = false := by simpa using c1
          by_cases c2 : figB ((s[k]).toNat : Int) = true
          · go_wp2_with (first | (go_at_call 111; refine (spec_l02Letter _ _).mono ?_; rintro e w' ⟨rfl, rfl⟩) | (go_at_call 112; refine (spec_l02Figure _ _).mono ?_; rintro e w' ⟨rfl, rfl⟩))
            go_round
            case rel => exact ⟨k + 1, by omega, by go_num, by rw [HS.out, HA.out, c2]; simp⟩
            case measure => simp [intOf]; omega
          · have c2' : figB ((s[k]).toNat : Int) = false := by simpa using c2
            go_wp2_with (first | (go_at_call 111; refine (spec_l02Letter _ _).mono ?_; rintro e w' ⟨rfl, rfl⟩) | (go_at_call 112; refine (spec_l02Figure _ _).mono ?_; rintro e w' ⟨rfl, rfl⟩))
            go_ret
            exact ⟨ret_bool (by rw [F.out, HN.out (by rw [c1', c2']; rfl)]), rfl⟩
      · go_wp2_with fail
        go_ret
        exact ⟨ret_bool (by rw [F.out, ← HA.out, List.take_of_length_le (by simp; omega)]), rfl⟩
  · have h4' : smallB ((s[0]).toNat : Int) = false := by simpa using h4
    have F : Hid (wordL s.data.toList = false) := word_head _ _ hf h4'
    clear hl hf
    go_enter Try.func100, Try.ntmps100
    go_wp2_with (go_at_call 111; refine (spec_l02Letter _ _).mono ?_; rintro e w' ⟨rfl, rfl⟩)
    go_ret
    exact ⟨ret_bool (by rw [F.out]), rfl⟩
set_option maxHeartbeats 400000 in
theorem spec_IsName (s : ByteArray) (w : World) : Calls Try.prog 76 #[.string s] w fun e w' => e = .returned (.bool (isNameL s.data.toList)) ∧ w = w' := by
  have hd := Lib.hid (Lib.toList_data s)
  go_enter Try.func76, Try.ntmps76
  go_wp2_with (go_at_call 100; refine (spec_l02Word _ _).mono ?_; rintro e w' ⟨rfl, rfl⟩)
  all_goals go_ret
  all_goals exact ⟨ret_bool (by rw [← hd.out]; simp_all [isNameL, keyL]), rfl⟩
/-- the switch at the end of the program's IsName, met behind its loop -/
theorem not_name (l : List UInt8) (h : wordL l = false) : isNameL l = false := by simp [isNameL, h]
theorem name_of (l m : List UInt8) (e : l = m) (h : wordL m = true) : isNameL m = !keyL l := by subst e; simp [isNameL, h]
set_option maxHeartbeats 1000000 in
theorem impl_IsName (s : ByteArray) (w : World) : Calls Try.prog 69 #[.string s] w fun e w' => e = .returned (.bool (isNameL s.data.toList)) ∧ w = w' := by
  have hl := size_list s
  by_cases h0 : s.size < 1
  · have F : Hid (isNameL s.data.toList = false) := not_name _ (word_none _ (by omega))
    clear hl
    go_enter Try.func69, Try.ntmps69
    go_wp2_with fail
    go_ret
    exact ⟨ret_bool (by rw [F.out]), rfl⟩
  by_cases h2 : 12 < s.size
  · have F : Hid (isNameL s.data.toList = false) := not_name _ (word_long _ (by omega))
    clear hl
    go_enter Try.func69, Try.ntmps69
    go_wp2_with fail
    go_ret
    exact ⟨ret_bool (by rw [F.out]), rfl⟩
  have h3 : 0 < s.size := by omega
  have hf := first_of s h3
  by_cases h4 : smallB ((s[0]).toNat : Int) = true
  · have F : Hid (wordL s.data.toList = s.data.toList.all okC) := word_all _ _ hf h4 (by omega) (by omega)
    have hd := Lib.hid (Lib.toList_data s)
    clear hl hf
    go_enter Try.func69, Try.ntmps69
    go_wp2_with (go_at_call 96; refine (impl_isSmall _ _).mono ?_; rintro e w' ⟨rfl, rfl⟩)
    go_loop [3] (fun i => ∃ k : Nat, k ≤ s.size ∧ i = .int .i64 k ∧ (s.data.toList.take k).all okC = true) (fun i => s.size - (intOf i).toNat)
    case atStart => exact ⟨0, Nat.zero_le _, rfl, rfl⟩
    case round =>
      obtain ⟨k, hk, rfl, hall⟩ := hrel
      have HA := Lib.hid hall
      clear hall
      by_cases hlt : k < s.size
      · have HS := Lib.hid (all_snoc s k hlt)
        have HN := Lib.hid (all_no s k hlt)
        by_cases c1 : smallB ((s[k]).toNat : Int) = true
        · go_wp2_with (go_at_call 96; refine (impl_isSmall _ _).mono ?_; rintro e w' ⟨rfl, rfl⟩)
          go_round
          case rel => exact ⟨k + 1, by omega, by go_num, by rw [HS.out, HA.out, c1]; rfl⟩
          case measure => simp [intOf]; omega
        · have c1' : smallB ((s[k]).toNat : Int) = false := by simpa using c1
          by_cases c2 : figB ((s[k]).toNat : Int) = true
          · go_wp2_with (first | (go_at_call 96; refine (impl_isSmall _ _).mono ?_; rintro e w' ⟨rfl, rfl⟩) | (go_at_call 97; refine (impl_isFigure _ _).mono ?_; rintro e w' ⟨rfl, rfl⟩))
            go_round
            case rel => exact ⟨k + 1, by omega, by go_num, by rw [HS.out, HA.out, c2]; simp⟩
            case measure => simp [intOf]; omega
          · have c2' : figB ((s[k]).toNat : Int) = false := by simpa using c2
            go_wp2_with (first | (go_at_call 96; refine (impl_isSmall _ _).mono ?_; rintro e w' ⟨rfl, rfl⟩) | (go_at_call 97; refine (impl_isFigure _ _).mono ?_; rintro e w' ⟨rfl, rfl⟩))
            go_ret
            exact ⟨ret_bool (by rw [not_name _ (by rw [F.out, HN.out (by rw [c1', c2']; rfl)])]), rfl⟩
      · have W : Hid (wordL s.data.toList = true) := Lib.hid (F.out.trans (by have h := HA.out; rw [List.take_of_length_le (by simp; omega)] at h; exact h))
        have G := Lib.hid (name_of s.toList _ hd.out W.out)
        clear W F HA hd
        go_wp2_with fail
        all_goals go_ret
        all_goals exact ⟨ret_bool (by rw [G.out]; simp_all [keyL]), rfl⟩
  · have h4' : smallB ((s[0]).toNat : Int) = false := by simpa using h4
    have F : Hid (isNameL s.data.toList = false) := not_name _ (word_head _ _ hf h4')
    clear hl hf
    go_enter Try.func69, Try.ntmps69
    go_wp2_with (go_at_call 96; refine (impl_isSmall _ _).mono ?_; rintro e w' ⟨rfl, rfl⟩)
    go_ret
    exact ⟨ret_bool (by rw [F.out]), rfl⟩
end Go.Proofs.Ytadcebdhgocmhaa
