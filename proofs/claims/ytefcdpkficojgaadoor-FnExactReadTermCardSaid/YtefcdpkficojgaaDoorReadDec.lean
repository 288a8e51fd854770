/- ReadDecimal in the reference and in the program. -/
import Derived.Test.YtefcdpkficojgaaDoorItoa
namespace Go.Proofs.YtefcdpkficojgaaDoor
open Go.RowKit
set_option linter.unusedVariables false

def isDig (c : UInt8) : Bool := decide (48 ≤ c.toNat) && decide (c.toNat ≤ 57)
def valL (l : List UInt8) : Nat := l.foldl (fun n c => n * 10 + (c.toNat - 48)) 0
theorem valL_snoc (l : List UInt8) (c : UInt8) : valL (l ++ [c]) = valL l * 10 + (c.toNat - 48) := by simp [valL]
theorem valL_lt (l : List UInt8) (h : l.all isDig = true) : valL l < 10 ^ l.length := by
  have key : ∀ (l : List UInt8) (n m : Nat), l.all isDig = true → n < 10 ^ m → l.foldl (fun n c => n * 10 + (c.toNat - 48)) n < 10 ^ (m + l.length) := by
    intro l
    induction l with
    | nil => intro n m _ h; exact h
    | cons c r ih =>
      intro n m ha h
      rw [List.all_cons, Bool.and_eq_true] at ha
      have hc := ha.1
      unfold isDig at hc
      rw [Bool.and_eq_true, decide_eq_true_eq, decide_eq_true_eq] at hc
      have h2 : n * 10 + (c.toNat - 48) < 10 ^ (m + 1) := by rw [Nat.pow_succ]; omega
      have := ih _ (m + 1) ha.2 h2
      rw [List.foldl_cons, List.length_cons, show m + (r.length + 1) = m + 1 + r.length from by omega]
      exact this
  have := key l 0 0 h (by decide)
  rw [Nat.zero_add] at this
  exact this
theorem valL_bd (l : List UInt8) (h : l.all isDig = true) (hl : l.length ≤ 10) : valL l < 10000000000 :=
  Nat.lt_of_lt_of_le (valL_lt l h) (Nat.pow_le_pow_right (n := 10) (by decide) hl)
def readD (s : ByteArray) : Int × Bool :=
  if s.size ≤ 10 ∧ s.data.toList.all isDig = true ∧ valL s.data.toList ≤ 1000000000 ∧ (⟨(Lib.itoa (valL s.data.toList : Int)).toArray⟩ : ByteArray) = s then ((valL s.data.toList : Int), true) else (0, false)
theorem readD_yes {s : ByteArray} (h1 : s.size ≤ 10) (h2 : s.data.toList.all isDig = true) (h3 : valL s.data.toList ≤ 1000000000) (h4 : (⟨(Lib.itoa (valL s.data.toList : Int)).toArray⟩ : ByteArray) = s) : readD s = ((valL s.data.toList : Int), true) := by
  unfold readD; rw [if_pos ⟨h1, h2, h3, h4⟩]
theorem readD_no {s : ByteArray} (h : ¬ s.size ≤ 10 ∨ s.data.toList.all isDig = false ∨ ¬ valL s.data.toList ≤ 1000000000 ∨ (⟨(Lib.itoa (valL s.data.toList : Int)).toArray⟩ : ByteArray) ≠ s) : readD s = (0, false) := by
  unfold readD
  rw [if_neg]
  rintro ⟨h1, h2, h3, h4⟩
  rcases h with h | h | h | h
  · exact h h1
  · rw [h2] at h; cases h
  · exact h h3
  · exact h h4
theorem dig_no (s : ByteArray) (k : Nat) (h : k < s.size) (hb : isDig s[k] = false) : s.data.toList.all isDig = false := by
  rw [List.all_eq_false]
  have hm : s[k] ∈ s.data.toList := by
    have h2 : k < s.data.toList.length := by simpa using h
    have : s.data.toList[k] = s[k] := rfl
    rw [← this]; exact List.getElem_mem h2
  exact ⟨_, hm, by simp [hb]⟩
theorem take_snoc (s : ByteArray) (k : Nat) (h : k < s.size) : s.data.toList.take (k + 1) = s.data.toList.take k ++ [s[k]] := by
  rw [List.take_succ_eq_append_getElem (by simpa using h)]
  rfl
theorem str_eq_list (l : List UInt8) (s : ByteArray) : (l == s.toList) = decide ((⟨l.toArray⟩ : ByteArray) = s) := by
  rw [← str_eq, Lib.toList_data (⟨l.toArray⟩ : ByteArray)]
theorem empty_read : readD ByteArray.empty = (0, false) := readD_no (.inr (.inr (.inr (by
  have e : valL ByteArray.empty.data.toList = 0 := rfl
  rw [e, show ((0 : Nat) : Int) = 0 from rfl, itoa_zero]
  intro h
  have := congrArg ByteArray.size h
  exact absurd this (by decide)))))
set_option maxHeartbeats 1600000 in
theorem spec_ReadDecimal (s : ByteArray) (w : World) :
    Calls Tryd.prog 128 #[.string s] w fun e w' => e = .returned (.tuple #[.int .i64 (readD s).1, .bool (readD s).2]) ∧ Below w.heap.size w w' := by
  by_cases hl : 10 < s.size
  · have F := Lib.hid (readD_no (s := s) (.inl (by omega)))
    go_enter Tryd.func128, Tryd.ntmps128
    go_wp2_with fail
    go_ret2
    rw [F.out]
    exact ⟨rfl, Below.refl _ _⟩
  go_enter Tryd.func128, Tryd.ntmps128
  go_wp2_with fail
  go_loopw [4, 5] (fun nv i wr => ∃ k : Nat, k ≤ s.size ∧ i = .int .i64 k ∧ nv = .int .i64 (valL (s.data.toList.take k) : Int) ∧ wr = w ∧ Hid ((s.data.toList.take k).all isDig = true)) (fun _ i _ => s.size - (intOf i).toNat)
  case atStart => exact ⟨0, Nat.zero_le _, rfl, rfl, rfl, Lib.hid rfl⟩
  case round =>
    obtain ⟨k, hk, rfl, rfl, rfl, HA⟩ := hrel
    have hv := valL_bd _ HA.out (by rw [List.length_take]; omega)
    by_cases hlt : k < s.size
    · have h0k : (0 : Int) ≤ (k : Int) := by omega
      have h1k : (k : Int) < (s.size : Int) := by omega
      have hcb : s[k].toNat < 256 := s[k].toNat_lt
      have HN := Lib.hid (dig_no s k hlt)
      have HS := Lib.hid (take_snoc s k hlt)
      by_cases c1 : s[k].toNat < 48
      · have F := Lib.hid (readD_no (s := s) (.inr (.inl (HN.out (by unfold isDig; rw [decide_eq_false (by omega)]; rfl)))))
        have c1' : (s[k].toNat : Int) < 48 := by omega
        clear c1
        go_wp2_with fail
        go_ret2
        rw [F.out]
        exact ⟨rfl, Below.refl _ _⟩
      · by_cases c2 : 57 < s[k].toNat
        · have F := Lib.hid (readD_no (s := s) (.inr (.inl (HN.out (by unfold isDig; rw [decide_eq_false (p := s[k].toNat ≤ 57) (by omega)]; simp)))))
          have c1' : ¬ (s[k].toNat : Int) < 48 := by omega
          have c2' : 57 < (s[k].toNat : Int) := by omega
          clear c1 c2
          go_wp2_with fail
          go_ret2
          rw [F.out]
          exact ⟨rfl, Below.refl _ _⟩
        · have c1' : ¬ (s[k].toNat : Int) < 48 := by omega
          have c2' : ¬ 57 < (s[k].toNat : Int) := by omega
          have HV : Hid ((valL (s.data.toList.take (k + 1)) : Int) = (valL (s.data.toList.take k) : Int) * 10 + ((s[k].toNat : Int) - 48)) := Lib.hid (by rw [HS.out, valL_snoc]; omega)
          have HA2 : Hid ((s.data.toList.take (k + 1)).all isDig = true) := Lib.hid (by
            rw [HS.out, List.all_append, HA.out]
            have e : isDig s[k] = true := by unfold isDig; rw [decide_eq_true (by omega), decide_eq_true (by omega)]; rfl
            simp only [List.all_cons, List.all_nil, e]; rfl)
          clear c1 c2 HS
          go_wp2_with fail
          go_roundw
          case rel => exact ⟨k + 1, by omega, by go_num, by rw [HV.out]; try (congr 1; omega), by first | rfl | trivial, HA2⟩
          case measure => simp [intOf]; omega
    · have hT : s.data.toList.take k = s.data.toList := List.take_of_length_le (by simp; omega)
      rw [hT] at hv HA ⊢
      have F2 := Lib.hid (readD_no (s := s))
      have F1 := Lib.hid (readD_yes (s := s) (by omega) HA.out)
      have FM : Hid (readD s = readD s) := Lib.hid rfl
      generalize hm : valL s.data.toList = m at *
      have HM := Lib.hid hm
      clear hT hm
      by_cases g1 : m ≤ 1000000000
      · have g1' : ¬ (1000000000 : Int) < (m : Int) := by omega
        have q := str_eq_list (Lib.itoa (m : Int)) s
        have hz0 : (-9223372036854775808 : Int) ≤ (m : Int) := by omega
        have hz1 : (m : Int) ≤ 9223372036854775807 := by omega
        by_cases g2 : (⟨(Lib.itoa (m : Int)).toArray⟩ : ByteArray) = s
        · have F := Lib.hid (F1.out g1 g2)
          have G2 := Lib.hid g2
          rw [decide_eq_true g2] at q
          have Q := Lib.hid q
          clear g2 q
          go_wp2_with fail
          refine (spec_Decimal (m : Int) hz0 hz1 _).mono ?_
          rintro e w1 ⟨rfl, b1⟩
          have B1 := Lib.hid b1
          have q := Q.out
          clear b1
          go_wp2_with fail
          go_ret2
          rw [F.out]
          exact ⟨rfl, B1.out⟩
        · have F := Lib.hid (F2.out (.inr (.inr (.inr g2))))
          rw [decide_no g2] at q
          have Q := Lib.hid q
          clear g2 q
          go_wp2_with fail
          refine (spec_Decimal (m : Int) hz0 hz1 _).mono ?_
          rintro e w1 ⟨rfl, b1⟩
          have B1 := Lib.hid b1
          have q := Q.out
          clear b1
          go_wp2_with fail
          go_ret2
          rw [F.out]
          exact ⟨rfl, B1.out⟩
      · have g1' : (1000000000 : Int) < (m : Int) := by omega
        have F := Lib.hid (F2.out (.inr (.inr (.inl g1))))
        go_wp2_with fail
        go_ret2
        rw [F.out]
        exact ⟨rfl, Below.refl _ _⟩
set_option maxHeartbeats 1600000 in
theorem impl_ReadDecimal (s : ByteArray) (w : World) (tab : Lib.TabIs Tryd.prog w "internal/strconv.uint64pow10" .u64 Lib.pow10Tab) :
    Calls Tryd.prog 132 #[.string s] w fun e w' => e = .returned (.tuple #[.int .i64 (readD s).1, .bool (readD s).2]) ∧ Below w.heap.size w w' := by
  have TB := Lib.hid tab
  clear tab
  by_cases hz : s.size = 0
  · have F : Hid (readD s = (0, false)) := Lib.hid (by
      have : s = ByteArray.empty := str_ext (List.eq_nil_of_length_eq_zero (by simpa using hz))
      rw [this]; exact empty_read)
    go_enter Tryd.func132, Tryd.ntmps132
    go_wp2_with fail
    go_ret2
    rw [F.out]
    exact ⟨rfl, Below.refl _ _⟩
  have hz' : ((s.size : Int) == 0) = false := beq_eq_false_iff_ne.2 (by omega)
  have hzz : s.size ≠ 0 := hz
  by_cases hl : 10 < s.size
  · have F := Lib.hid (readD_no (s := s) (.inl (by omega)))
    go_enter Tryd.func132, Tryd.ntmps132
    go_wp2_with fail
    go_ret2
    rw [F.out]
    exact ⟨rfl, Below.refl _ _⟩
  go_enter Tryd.func132, Tryd.ntmps132
  go_wp2_with fail
  go_loopw [4, 5] (fun nv i wr => ∃ k : Nat, k ≤ s.size ∧ i = .int .i64 k ∧ nv = .int .i64 (valL (s.data.toList.take k) : Int) ∧ wr = w ∧ Hid ((s.data.toList.take k).all isDig = true)) (fun _ i _ => s.size - (intOf i).toNat)
  case atStart => exact ⟨0, Nat.zero_le _, rfl, rfl, rfl, Lib.hid rfl⟩
  case round =>
    obtain ⟨k, hk, rfl, rfl, rfl, HA⟩ := hrel
    have hv := valL_bd _ HA.out (by rw [List.length_take]; omega)
    by_cases hlt : k < s.size
    · have h0k : (0 : Int) ≤ (k : Int) := by omega
      have h1k : (k : Int) < (s.size : Int) := by omega
      have hcb : s[k].toNat < 256 := s[k].toNat_lt
      have HN := Lib.hid (dig_no s k hlt)
      have HS := Lib.hid (take_snoc s k hlt)
      by_cases c1 : s[k].toNat < 48
      · have F := Lib.hid (readD_no (s := s) (.inr (.inl (HN.out (by unfold isDig; rw [decide_eq_false (by omega)]; rfl)))))
        have c1' : (s[k].toNat : Int) < 48 := by omega
        clear c1
        go_wp2_with fail
        go_ret2
        rw [F.out]
        exact ⟨rfl, Below.refl _ _⟩
      · by_cases c2 : 57 < s[k].toNat
        · have F := Lib.hid (readD_no (s := s) (.inr (.inl (HN.out (by unfold isDig; rw [decide_eq_false (p := s[k].toNat ≤ 57) (by omega)]; simp)))))
          have c1' : ¬ (s[k].toNat : Int) < 48 := by omega
          have c2' : 57 < (s[k].toNat : Int) := by omega
          clear c1 c2
          go_wp2_with fail
          go_ret2
          rw [F.out]
          exact ⟨rfl, Below.refl _ _⟩
        · have c1' : ¬ (s[k].toNat : Int) < 48 := by omega
          have c2' : ¬ 57 < (s[k].toNat : Int) := by omega
          have HV : Hid ((valL (s.data.toList.take (k + 1)) : Int) = (valL (s.data.toList.take k) : Int) * 10 + ((s[k].toNat : Int) - 48)) := Lib.hid (by rw [HS.out, valL_snoc]; omega)
          have HA2 : Hid ((s.data.toList.take (k + 1)).all isDig = true) := Lib.hid (by
            rw [HS.out, List.all_append, HA.out]
            have e : isDig s[k] = true := by unfold isDig; rw [decide_eq_true (by omega), decide_eq_true (by omega)]; rfl
            simp only [List.all_cons, List.all_nil, e]; rfl)
          clear c1 c2 HS
          go_wp2_with fail
          go_roundw
          case rel => exact ⟨k + 1, by omega, by go_num, by rw [HV.out]; try (congr 1; omega), by first | rfl | trivial, HA2⟩
          case measure => simp [intOf]; omega
    · have hT : s.data.toList.take k = s.data.toList := List.take_of_length_le (by simp; omega)
      rw [hT] at hv HA ⊢
      have F2 := Lib.hid (readD_no (s := s))
      have F1 := Lib.hid (readD_yes (s := s) (by omega) HA.out)
      have FM : Hid (readD s = readD s) := Lib.hid rfl
      generalize hm : valL s.data.toList = m at *
      have HM := Lib.hid hm
      clear hT hm
      by_cases g1 : m ≤ 1000000000
      · have g1' : ¬ (1000000000 : Int) < (m : Int) := by omega
        have q := str_eq_list (Lib.itoa (m : Int)) s
        have hz0 : (-9223372036854775808 : Int) ≤ (m : Int) := by omega
        have hz1 : (m : Int) ≤ 9223372036854775807 := by omega
        by_cases g2 : (⟨(Lib.itoa (m : Int)).toArray⟩ : ByteArray) = s
        · have F := Lib.hid (F1.out g1 g2)
          have G2 := Lib.hid g2
          rw [decide_eq_true g2] at q
          have Q := Lib.hid q
          clear g2 q
          go_wp2_with fail
          refine (impl_Decimal (m : Int) hz0 hz1 _ TB.out).mono ?_
          rintro e w1 ⟨rfl, b1⟩
          have B1 := Lib.hid b1
          have q := Q.out
          clear b1
          go_wp2_with fail
          go_ret2
          rw [F.out]
          exact ⟨rfl, B1.out⟩
        · have F := Lib.hid (F2.out (.inr (.inr (.inr g2))))
          rw [decide_no g2] at q
          have Q := Lib.hid q
          clear g2 q
          go_wp2_with fail
          refine (impl_Decimal (m : Int) hz0 hz1 _ TB.out).mono ?_
          rintro e w1 ⟨rfl, b1⟩
          have B1 := Lib.hid b1
          have q := Q.out
          clear b1
          go_wp2_with fail
          go_ret2
          rw [F.out]
          exact ⟨rfl, B1.out⟩
      · have g1' : (1000000000 : Int) < (m : Int) := by omega
        have F := Lib.hid (F2.out (.inr (.inr (.inl g1))))
        go_wp2_with fail
        go_ret2
        rw [F.out]
        exact ⟨rfl, Below.refl _ _⟩
end Go.Proofs.YtefcdpkficojgaaDoor
