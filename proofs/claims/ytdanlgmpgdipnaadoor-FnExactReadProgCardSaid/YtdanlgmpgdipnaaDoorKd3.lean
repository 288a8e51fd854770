/- Several texts in one: Names, Words, LexP, LexQ. -/
import Derived.Test.YtdanlgmpgdipnaaDoorKd1
import Derived.Test.YtdanlgmpgdipnaaDoorKd2
namespace Go.Proofs.YtdanlgmpgdipnaaDoor
open Go.RowKit
set_option linter.unusedVariables false


def smallB (n : Int) : Bool := decide (97 ≤ n) && decide (n ≤ 122)
def figB (n : Int) : Bool := decide (48 ≤ n) && decide (n ≤ 57)
def okC (c : UInt8) : Bool := smallB c.toNat || figB c.toNat
def wordL (l : List UInt8) : Bool := decide (1 ≤ l.length) && decide (l.length ≤ 12) && smallB ((l[0]?.getD 0).toNat : Int) && l.all okC
def keyL (l : List UInt8) : Bool :=
  l == [97, 110, 100] || l == [99, 97, 108, 108] || l == [101, 108, 115, 101] || l == [103, 108, 111, 98, 97, 108, 115] || l == [105, 102] || l == [108, 111, 99, 107] || l == [108, 111, 99, 107, 115] || l == [110, 111, 116] || l == [112, 114, 111, 99] || l == [115, 107, 105, 112] || l == [115, 112, 97, 119, 110] || l == [117, 110, 108, 111, 99, 107] || l == [119, 104, 105, 108, 101]
def isNameL (l : List UInt8) : Bool := wordL l && !keyL l

theorem all_snoc (s : ByteArray) (k : Nat) (h : k < s.size) : (s.data.toList.take (k + 1)).all okC = ((s.data.toList.take k).all okC && (smallB ((s[k]).toNat : Int) || figB ((s[k]).toNat : Int))) := by
  rw [List.take_succ_eq_append_getElem (by simpa using h), List.all_append]
  simp [okC]
  rfl
theorem first_of (s : ByteArray) (h : 0 < s.size) : s.data.toList[0]?.getD 0 = s[0] := by
  rw [List.getElem?_eq_getElem (by simpa using h)]; rfl
theorem word_none (l : List UInt8) (h : l.length = 0) : wordL l = false := by simp [wordL, h]
theorem word_long (l : List UInt8) (h : 12 < l.length) : wordL l = false := by
  have : decide (l.length ≤ 12) = false := decide_no (by omega)
  simp only [wordL, this, Bool.and_false, Bool.false_and]
theorem word_head (l : List UInt8) (c : UInt8) (e : l[0]?.getD 0 = c) (h : smallB (c.toNat : Int) = false) : wordL l = false := by
  simp only [wordL, e, h, Bool.and_false, Bool.false_and]
theorem word_all (l : List UInt8) (c : UInt8) (e : l[0]?.getD 0 = c) (h : smallB (c.toNat : Int) = true) (h1 : 1 ≤ l.length) (h2 : l.length ≤ 12) : wordL l = l.all okC := by
  simp only [wordL, e, h, h1, h2, decide_true, Bool.true_and]
/-- a byte that is none: the word is none -/
theorem all_no (s : ByteArray) (k : Nat) (h : k < s.size) (hc : (smallB ((s[k]).toNat : Int) || figB ((s[k]).toNat : Int)) = false) : s.data.toList.all okC = false := by
  have e : s.data.toList = s.data.toList.take (k + 1) ++ s.data.toList.drop (k + 1) := by simp
  rw [e, List.all_append, all_snoc s k h, hc]; simp
theorem impl_isSmall (b : Int) (w : World) : Calls Tryd.prog 58 #[.int .u8 b] w fun e w' => e = .returned (.bool (smallB b)) ∧ w = w' := by
  by_cases h : 97 ≤ b
  · go_enter Tryd.func58, Tryd.ntmps58
    go_wp2
    go_ret
    exact ⟨ret_bool (by simp only [smallB, h, decide_true, Bool.true_and]), rfl⟩
  · have h' : decide (97 ≤ b) = false := by simpa using h
    go_enter Tryd.func58, Tryd.ntmps58
    go_wp2
    go_ret
    exact ⟨ret_bool (by simp only [smallB, h', Bool.false_and]), rfl⟩
theorem impl_isFigure (b : Int) (w : World) : Calls Tryd.prog 59 #[.int .u8 b] w fun e w' => e = .returned (.bool (figB b)) ∧ w = w' := by
  by_cases h : 48 ≤ b
  · go_enter Tryd.func59, Tryd.ntmps59
    go_wp2
    go_ret
    exact ⟨ret_bool (by simp only [figB, h, decide_true, Bool.true_and]), rfl⟩
  · have h' : decide (48 ≤ b) = false := by simpa using h
    go_enter Tryd.func59, Tryd.ntmps59
    go_wp2
    go_ret
    exact ⟨ret_bool (by simp only [figB, h', Bool.false_and]), rfl⟩
theorem spec_l02Letter (b : Int) (w : World) : Calls Tryd.prog 39 #[.int .u8 b] w fun e w' => e = .returned (.bool (smallB b)) ∧ w = w' := by
  by_cases h : 97 ≤ b
  · go_enter Tryd.func39, Tryd.ntmps39
    go_wp2
    go_ret
    exact ⟨ret_bool (by simp only [smallB, h, decide_true, Bool.true_and]), rfl⟩
  · have h' : decide (97 ≤ b) = false := by simpa using h
    go_enter Tryd.func39, Tryd.ntmps39
    go_wp2
    go_ret
    exact ⟨ret_bool (by simp only [smallB, h', Bool.false_and]), rfl⟩
theorem spec_l02Figure (b : Int) (w : World) : Calls Tryd.prog 42 #[.int .u8 b] w fun e w' => e = .returned (.bool (figB b)) ∧ w = w' := by
  by_cases h : 48 ≤ b
  · go_enter Tryd.func42, Tryd.ntmps42
    go_wp2
    go_ret
    exact ⟨ret_bool (by simp only [figB, h, decide_true, Bool.true_and]), rfl⟩
  · have h' : decide (48 ≤ b) = false := by simpa using h
    go_enter Tryd.func42, Tryd.ntmps42
    go_wp2
    go_ret
    exact ⟨ret_bool (by simp only [figB, h', Bool.false_and]), rfl⟩
set_option maxHeartbeats 400000 in
theorem spec_l02Word (s : ByteArray) (w : World) : Calls Tryd.prog 41 #[.string s] w fun e w' => e = .returned (.bool (wordL s.data.toList)) ∧ w = w' := by
  have hl := size_list s
  by_cases h0 : s.size = 0
  · have F : Hid (wordL s.data.toList = false) := word_none _ (by omega)
    have h1 : ((s.size : Int) == 0) = true := by simp [h0]
    clear h0 hl
    go_enter Tryd.func41, Tryd.ntmps41
    go_wp2_with fail
    go_ret
    exact ⟨ret_bool (by rw [F.out]), rfl⟩
  have h1 : ((s.size : Int) == 0) = false := by simp [h0]
  by_cases h2 : 12 < s.size
  · have F : Hid (wordL s.data.toList = false) := word_long _ (by omega)
    clear hl
    go_enter Tryd.func41, Tryd.ntmps41
    go_wp2_with fail
    go_ret
    exact ⟨ret_bool (by rw [F.out]), rfl⟩
  have h3 : 0 < s.size := by omega
  have hf := first_of s h3
  by_cases h4 : smallB ((s[0]).toNat : Int) = true
  · have F : Hid (wordL s.data.toList = s.data.toList.all okC) := word_all _ _ hf h4 (by omega) (by omega)
    clear hl hf
    go_enter Tryd.func41, Tryd.ntmps41
    go_wp2_with (go_at_call 39; refine (spec_l02Letter _ _).mono ?_; rintro e w' ⟨rfl, rfl⟩)
    go_loop [3] (fun i => ∃ k : Nat, k ≤ s.size ∧ i = .int .i64 k ∧ (s.data.toList.take k).all okC = true) (fun i => s.size - (intOf i).toNat)
    case atStart => exact ⟨0, Nat.zero_le _, rfl, rfl⟩
    case round =>
      obtain ⟨k, hk, rfl, hall⟩ := hrel
      have HA := Lib.hid hall
      clear hall
      by_cases hlt : k < s.size
      · have HS := Lib.hid (all_snoc s k hlt)
        have HN := Lib.hid (all_no s k hlt)
        by_cases c1 : smallB ((s[k]).toNat : Int) = true
        · go_wp2_with (go_at_call 39; refine (spec_l02Letter _ _).mono ?_; rintro e w' ⟨rfl, rfl⟩)
          go_round
          case rel => exact ⟨k + 1, by omega, by go_num, by rw [HS.out, HA.out, c1]; rfl⟩
          case measure => simp [intOf]; omega
        · have c1' : smallB ((s[k]).toNat : Int) = false := by simpa using c1
          by_cases c2 : figB ((s[k]).toNat : Int) = true
          · go_wp2_with (first | (go_at_call 39; refine (spec_l02Letter _ _).mono ?_; rintro e w' ⟨rfl, rfl⟩) | (go_at_call 42; refine (spec_l02Figure _ _).mono ?_; rintro e w' ⟨rfl, rfl⟩))
            go_round
            case rel => exact ⟨k + 1, by omega, by go_num, by rw [HS.out, HA.out, c2]; simp⟩
            case measure => simp [intOf]; omega
          · have c2' : figB ((s[k]).toNat : Int) = false := by simpa using c2
            go_wp2_with (first | (go_at_call 39; refine (spec_l02Letter _ _).mono ?_; rintro e w' ⟨rfl, rfl⟩) | (go_at_call 42; refine (spec_l02Figure _ _).mono ?_; rintro e w' ⟨rfl, rfl⟩))
            go_ret
            exact ⟨ret_bool (by rw [F.out, HN.out (by rw [c1', c2']; rfl)]), rfl⟩
      · go_wp2_with fail
        go_ret
        exact ⟨ret_bool (by rw [F.out, ← HA.out, List.take_of_length_le (by simp; omega)]), rfl⟩
  · have h4' : smallB ((s[0]).toNat : Int) = false := by simpa using h4
    have F : Hid (wordL s.data.toList = false) := word_head _ _ hf h4'
    clear hl hf
    go_enter Tryd.func41, Tryd.ntmps41
    go_wp2_with (go_at_call 39; refine (spec_l02Letter _ _).mono ?_; rintro e w' ⟨rfl, rfl⟩)
    go_ret
    exact ⟨ret_bool (by rw [F.out]), rfl⟩
set_option maxHeartbeats 400000 in
theorem spec_IsName (s : ByteArray) (w : World) : Calls Tryd.prog 45 #[.string s] w fun e w' => e = .returned (.bool (isNameL s.data.toList)) ∧ w = w' := by
  have hd := Lib.hid (Lib.toList_data s)
  go_enter Tryd.func45, Tryd.ntmps45
  go_wp2_with (go_at_call 41; refine (spec_l02Word _ _).mono ?_; rintro e w' ⟨rfl, rfl⟩)
  all_goals go_ret
  all_goals exact ⟨ret_bool (by rw [← hd.out]; simp_all [isNameL, keyL]), rfl⟩
/-- the switch at the end of the program's IsName, met behind its loop -/
theorem not_name (l : List UInt8) (h : wordL l = false) : isNameL l = false := by simp [isNameL, h]
theorem name_of (l m : List UInt8) (e : l = m) (h : wordL m = true) : isNameL m = !keyL l := by subst e; simp [isNameL, h]
set_option maxHeartbeats 1000000 in
theorem impl_IsName (s : ByteArray) (w : World) : Calls Tryd.prog 50 #[.string s] w fun e w' => e = .returned (.bool (isNameL s.data.toList)) ∧ w = w' := by
  have hl := size_list s
  by_cases h0 : s.size < 1
  · have F : Hid (isNameL s.data.toList = false) := not_name _ (word_none _ (by omega))
    clear hl
    go_enter Tryd.func50, Tryd.ntmps50
    go_wp2_with fail
    go_ret
    exact ⟨ret_bool (by rw [F.out]), rfl⟩
  by_cases h2 : 12 < s.size
  · have F : Hid (isNameL s.data.toList = false) := not_name _ (word_long _ (by omega))
    clear hl
    go_enter Tryd.func50, Tryd.ntmps50
    go_wp2_with fail
    go_ret
    exact ⟨ret_bool (by rw [F.out]), rfl⟩
  have h3 : 0 < s.size := by omega
  have hf := first_of s h3
  by_cases h4 : smallB ((s[0]).toNat : Int) = true
  · have F : Hid (wordL s.data.toList = s.data.toList.all okC) := word_all _ _ hf h4 (by omega) (by omega)
    have hd := Lib.hid (Lib.toList_data s)
    clear hl hf
    go_enter Tryd.func50, Tryd.ntmps50
    go_wp2_with (go_at_call 58; refine (impl_isSmall _ _).mono ?_; rintro e w' ⟨rfl, rfl⟩)
    go_loop [3] (fun i => ∃ k : Nat, k ≤ s.size ∧ i = .int .i64 k ∧ (s.data.toList.take k).all okC = true) (fun i => s.size - (intOf i).toNat)
    case atStart => exact ⟨0, Nat.zero_le _, rfl, rfl⟩
    case round =>
      obtain ⟨k, hk, rfl, hall⟩ := hrel
      have HA := Lib.hid hall
      clear hall
      by_cases hlt : k < s.size
      · have HS := Lib.hid (all_snoc s k hlt)
        have HN := Lib.hid (all_no s k hlt)
        by_cases c1 : smallB ((s[k]).toNat : Int) = true
        · go_wp2_with (go_at_call 58; refine (impl_isSmall _ _).mono ?_; rintro e w' ⟨rfl, rfl⟩)
          go_round
          case rel => exact ⟨k + 1, by omega, by go_num, by rw [HS.out, HA.out, c1]; rfl⟩
          case measure => simp [intOf]; omega
        · have c1' : smallB ((s[k]).toNat : Int) = false := by simpa using c1
          by_cases c2 : figB ((s[k]).toNat : Int) = true
          · go_wp2_with (first | (go_at_call 58; refine (impl_isSmall _ _).mono ?_; rintro e w' ⟨rfl, rfl⟩) | (go_at_call 59; refine (impl_isFigure _ _).mono ?_; rintro e w' ⟨rfl, rfl⟩))
            go_round
            case rel => exact ⟨k + 1, by omega, by go_num, by rw [HS.out, HA.out, c2]; simp⟩
            case measure => simp [intOf]; omega
          · have c2' : figB ((s[k]).toNat : Int) = false := by simpa using c2
            go_wp2_with (first | (go_at_call 58; refine (impl_isSmall _ _).mono ?_; rintro e w' ⟨rfl, rfl⟩) | (go_at_call 59; refine (impl_isFigure _ _).mono ?_; rintro e w' ⟨rfl, rfl⟩))
            go_ret
            exact ⟨ret_bool (by rw [not_name _ (by rw [F.out, HN.out (by rw [c1', c2']; rfl)])]), rfl⟩
      · have W : Hid (wordL s.data.toList = true) := Lib.hid (F.out.trans (by have h := HA.out; rw [List.take_of_length_le (by simp; omega)] at h; exact h))
        have G := Lib.hid (name_of s.toList _ hd.out W.out)
        clear W F HA hd
        go_wp2_with fail
        all_goals go_ret
        all_goals exact ⟨ret_bool (by rw [G.out]; simp_all [keyL]), rfl⟩
  · have h4' : smallB ((s[0]).toNat : Int) = false := by simpa using h4
    have F : Hid (isNameL s.data.toList = false) := not_name _ (word_head _ _ hf h4')
    clear hl hf
    go_enter Tryd.func50, Tryd.ntmps50
    go_wp2_with (go_at_call 58; refine (impl_isSmall _ _).mono ?_; rintro e w' ⟨rfl, rfl⟩)
    go_ret
    exact ⟨ret_bool (by rw [F.out]), rfl⟩

/-- one of the marks -/
def isMarkL (l : List UInt8) : Bool :=
  l == [123] || l == [125] || l == [40] || l == [41] || l == [59] || l == [44] || l == [61] || l == [61, 61] || l == [60] || l == [43] || l == [45] || l == [42]
set_option maxHeartbeats 400000 in
theorem spec_IsMark (s : ByteArray) (w : World) :
    Calls Tryd.prog 44 #[.string s] w fun e w' => e = .returned (.bool (isMarkL s.toList)) ∧ w = w' := by
  go_enter Tryd.func44, Tryd.ntmps44
  go_wp2
  all_goals go_ret
  all_goals exact ⟨by simp_all [isMarkL], rfl⟩
set_option maxHeartbeats 400000 in
theorem impl_IsMark (s : ByteArray) (w : World) :
    Calls Tryd.prog 61 #[.string s] w fun e w' => e = .returned (.bool (isMarkL s.toList)) ∧ w = w' := by
  go_enter Tryd.func61, Tryd.ntmps61
  go_wp2
  all_goals go_ret
  all_goals exact ⟨by simp_all [isMarkL], rfl⟩

structure Sg where
  k : Int
  t : ByteArray
  p : Nat
def okAt (s : ByteArray) (i : Nat) : Bool := if h : i < s.size then okC s[i] else false
/-- where a run of letters and figures ends -/
def runE (s : ByteArray) (i : Nat) : Nat := if okAt s i = true then runE s (i + 1) else i
termination_by s.size - i
decreasing_by
  have : i < s.size := by
    rename_i h
    unfold okAt at h
    split at h
    · assumption
    · cases h
  omega
theorem runE_yes {s : ByteArray} {i : Nat} (h : okAt s i = true) : runE s i = runE s (i + 1) := by rw [runE, if_pos h]
theorem runE_no {s : ByteArray} {i : Nat} (h : okAt s i = false) : runE s i = i := by rw [runE, if_neg (by rw [h]; decide)]
theorem okAt_lt {s : ByteArray} {i : Nat} (h : i < s.size) : okAt s i = okC s[i] := by unfold okAt; rw [dif_pos h]
theorem okAt_ge {s : ByteArray} {i : Nat} (h : ¬ i < s.size) : okAt s i = false := by unfold okAt; rw [dif_neg h]
theorem runE_ge (s : ByteArray) (n : Nat) : ∀ i, s.size - i ≤ n → i ≤ runE s i := by
  induction n with
  | zero => intro i h; rw [runE_no (okAt_ge (by omega))]; omega
  | succ n ih =>
    intro i h
    cases e : okAt s i with
    | false => rw [runE_no e]; omega
    | true => rw [runE_yes e]; have := ih (i + 1) (by omega); omega
theorem runE_le (s : ByteArray) (n : Nat) : ∀ i, s.size - i ≤ n → i ≤ s.size → runE s i ≤ s.size := by
  induction n with
  | zero => intro i h h2; rw [runE_no (okAt_ge (by omega))]; omega
  | succ n ih =>
    intro i h h2
    cases e : okAt s i with
    | false => rw [runE_no e]; omega
    | true =>
      rw [runE_yes e]
      by_cases h3 : i < s.size
      · exact ih (i + 1) (by omega) (by omega)
      · rw [okAt_ge h3] at e; cases e
theorem runE_bd {s : ByteArray} {i : Nat} (h : i < s.size) (e : okAt s i = true) : i + 1 ≤ runE s i ∧ runE s i ≤ s.size := by
  rw [runE_yes e]
  exact ⟨runE_ge s _ (i + 1) (Nat.le_refl _), runE_le s _ (i + 1) (Nat.le_refl _) (by omega)⟩
/-- all between are letters or figures -/
theorem runE_all (s : ByteArray) (n : Nat) : ∀ i, s.size - i ≤ n → ∀ j, i ≤ j → j < runE s i → okAt s j = true := by
  induction n with
  | zero => intro i h j h1 h2; rw [runE_no (okAt_ge (by omega))] at h2; omega
  | succ n ih =>
    intro i h j h1 h2
    cases e : okAt s i with
    | false => rw [runE_no e] at h2; omega
    | true =>
      rw [runE_yes e] at h2
      rcases Nat.eq_or_lt_of_le h1 with rfl | h3
      · exact e
      · exact ih (i + 1) (by omega) j h3 h2
def markB (s : ByteArray) : Bool := isMarkL s.toList
def eqTwo (s : ByteArray) (i : Nat) : Bool := if h : i + 1 < s.size then decide (s[i].toNat = 61) && decide (s[i + 1].toNat = 61) else false
/-- the sign at a byte that is no blank: its kind, where it ends, whether it is one -/
def signP (s : ByteArray) (i : Nat) (h : i < s.size) : Int × Nat × Bool :=
  if smallB (s[i].toNat : Int) = true then (1, runE s i, decide (runE s i - i ≤ 12))
  else if figB (s[i].toNat : Int) = true then (2, runE s i, (readD (s.extract i (runE s i))).2)
  else (3, if eqTwo s i = true then i + 2 else i + 1, markB (s.extract i (if eqTwo s i = true then i + 2 else i + 1)))
theorem okC_or (c : UInt8) : okC c = (smallB (c.toNat : Int) || figB (c.toNat : Int)) := rfl
theorem signP_bd (s : ByteArray) (i : Nat) (h : i < s.size) : i + 1 ≤ (signP s i h).2.1 ∧ (signP s i h).2.1 ≤ s.size := by
  unfold signP
  by_cases c1 : smallB (s[i].toNat : Int) = true
  · rw [if_pos c1]
    exact runE_bd h (by rw [okAt_lt h, okC_or, c1]; rfl)
  rw [if_neg c1]
  by_cases c2 : figB (s[i].toNat : Int) = true
  · rw [if_pos c2]
    exact runE_bd h (by rw [okAt_lt h, okC_or, c2]; simp)
  rw [if_neg c2]
  simp only
  split
  · rename_i e
    unfold eqTwo at e
    split at e
    · omega
    · cases e
  · omega
def blankB (c : UInt8) : Bool := decide (c.toNat = 32) || decide (c.toNat = 9) || decide (c.toNat = 10) || decide (c.toNat = 13)
/-- from a byte on: the signs, and the fault -/
def lexS (s : ByteArray) (i : Nat) (acc : List Sg) : List Sg × Int × Int :=
  if h : i < s.size then
    if blankB s[i] = true then lexS s (i + 1) acc
    else if (signP s i h).2.2 = true then lexS s (signP s i h).2.1 (acc ++ [⟨(signP s i h).1, s.extract i (signP s i h).2.1, i⟩])
    else ([], 2, (i : Int))
  else (acc, 0, 0)
termination_by s.size - i
decreasing_by
  · omega
  · have := signP_bd s i h; omega
theorem lexS_end {s : ByteArray} {i : Nat} {acc : List Sg} (h : ¬ i < s.size) : lexS s i acc = (acc, 0, 0) := by rw [lexS, dif_neg h]
theorem lexS_blank {s : ByteArray} {i : Nat} {acc : List Sg} (h : i < s.size) (hb : blankB s[i] = true) : lexS s i acc = lexS s (i + 1) acc := by rw [lexS, dif_pos h, if_pos hb]
theorem lexS_sign {s : ByteArray} {i : Nat} {acc : List Sg} (h : i < s.size) (hb : blankB s[i] = false) (ho : (signP s i h).2.2 = true) : lexS s i acc = lexS s (signP s i h).2.1 (acc ++ [⟨(signP s i h).1, s.extract i (signP s i h).2.1, i⟩]) := by
  rw [lexS, dif_pos h, if_neg (by rw [hb]; decide), if_pos ho]
theorem lexS_bad {s : ByteArray} {i : Nat} {acc : List Sg} (h : i < s.size) (hb : blankB s[i] = false) (ho : (signP s i h).2.2 = false) : lexS s i acc = ([], 2, (i : Int)) := by
  rw [lexS, dif_pos h, if_neg (by rw [hb]; decide), if_neg (by rw [ho]; decide)]
def lexR (s : ByteArray) : List Sg × Int × Int := if 6000 < s.size then ([], 1, 0) else lexS s 0 []
theorem lexR_long {s : ByteArray} (h : 6000 < s.size) : lexR s = ([], 1, 0) := by unfold lexR; rw [if_pos h]
theorem lexR_short {s : ByteArray} (h : ¬ 6000 < s.size) : lexR s = lexS s 0 [] := by unfold lexR; rw [if_neg h]

theorem ext_list (s : ByteArray) (i e : Nat) : (s.extract i e).data.toList = (s.data.toList.drop i).take (e - i) := by
  rw [ByteArray.data_extract, Array.toList_extract]
theorem word_run (s : ByteArray) (i : Nat) (h : i < s.size) (hsm : smallB (s[i].toNat : Int) = true) : wordL (s.extract i (runE s i)).data.toList = decide (runE s i - i ≤ 12) := by
  have hok : okAt s i = true := by rw [okAt_lt h, okC_or, hsm]; rfl
  obtain ⟨b1, b2⟩ := runE_bd h hok
  have hlen : ((s.data.toList.drop i).take (runE s i - i)).length = runE s i - i := by
    rw [List.length_take, List.length_drop, size_list]; omega
  have hall : ((s.data.toList.drop i).take (runE s i - i)).all okC = true := by
    rw [List.all_eq_true]
    intro c hc
    obtain ⟨j, hj, rfl⟩ := List.getElem_of_mem hc
    rw [hlen] at hj
    rw [List.getElem_take, List.getElem_drop]
    have hlt : i + j < s.size := by omega
    have := runE_all s _ i (Nat.le_refl _) (i + j) (by omega) (by omega)
    rw [okAt_lt hlt] at this
    exact this
  have hhead : smallB ((((s.data.toList.drop i).take (runE s i - i))[0]?.getD 0).toNat : Int) = true := by
    rw [List.getElem?_eq_getElem (by omega), List.getElem_take, List.getElem_drop]
    simp only [Option.getD_some, Nat.add_zero]
    exact hsm
  rw [ext_list]
  unfold wordL
  rw [hlen, hall, hhead, decide_eq_true (by omega : 1 ≤ runE s i - i)]
  simp
theorem two_eq (s : ByteArray) (i : Nat) (h : i + 2 ≤ s.size) : decide (s.extract i (i + 2) = ⟨#[61, 61]⟩) = eqTwo s i := by
  have h1 : i + 1 < s.size := by omega
  unfold eqTwo
  rw [dif_pos h1, Bool.eq_iff_iff, decide_eq_true_eq, Bool.and_eq_true, decide_eq_true_eq, decide_eq_true_eq]
  have e : (s.data.toList.drop i).take (i + 2 - i) = [s[i], s[i + 1]] := by
    apply List.ext_getElem
    · rw [List.length_take, List.length_drop, size_list]; simp; omega
    · intro j h2 h3
      rw [List.getElem_take, List.getElem_drop]
      have : j = 0 ∨ j = 1 := by simp at h3; omega
      rcases this with rfl | rfl <;> rfl
  constructor
  · intro hh
    have := congrArg (fun b : ByteArray => b.data.toList) hh
    simp only at this
    rw [ext_list, e] at this
    simp only [List.cons.injEq, and_true] at this
    rw [this.1, this.2]
    exact ⟨rfl, rfl⟩
  · rintro ⟨g1, g2⟩
    apply str_ext
    rw [ext_list, e]
    have k1 : s[i] = 61 := UInt8.toNat_inj.1 g1
    have k2 : s[i + 1] = 61 := UInt8.toNat_inj.1 g2
    rw [k1, k2]
end Go.Proofs.YtdanlgmpgdipnaaDoor
