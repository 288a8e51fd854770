/- Several texts in one: Hex, Itoa, ReadDec. -/
import Derived.Test.YtdanlgmpgdipnaaDoorKd1
import Derived.StillTailTactics
import Derived.Deep.RegionHeld3
import Derived.Test.YtdanlgmpgdipnaaDoorShelf
import Derived.Lib.LaidTab
import Derived.Lib.ItoaLen
namespace Go.Proofs.YtdanlgmpgdipnaaDoor
open Go.RowKit
set_option linter.unusedVariables false


def figC (n : Nat) : UInt8 := if n < 10 then UInt8.ofNat (48 + n) else UInt8.ofNat (87 + n)
theorem figC_toNat (n : Nat) (h : n < 16) : ((figC n).toNat : Int) = if (n : Int) < 10 then 48 + (n : Int) else 87 + (n : Int) := by
  unfold figC
  by_cases h1 : n < 10
  · have : (n : Int) < 10 := by omega
    simp only [h1, this, if_true, UInt8.toNat_ofNat']
    omega
  · have : ¬ (n : Int) < 10 := by omega
    simp only [h1, this, if_false, UInt8.toNat_ofNat']
    omega
theorem str_run {w : World} {A : Option Addr} {n : Nat} (c : Nat) {l : List UInt8} (rd : Rd w 1 A n (bv l)) : (convert 92 9 (.slice A n c)).run Tryd.prog w = .ok (.string ⟨l.toArray⟩) w :=
  run_str 92 5 9 Tryd.underlying92 Tryd.underlying5 Tryd.underlying9 c rd
theorem spec_l01Figure (x : Int) (w : World) (h0 : 0 ≤ x) (h1 : x < 16) : Calls Tryd.prog 64 #[.int .i64 x] w fun e w' => e = .returned (.int .u8 ((figC x.toNat).toNat : Int)) ∧ w = w' := by
  obtain ⟨n, rfl⟩ := Int.eq_ofNat_of_zero_le h0
  have hf := Lib.hid (figC_toNat n (by omega))
  by_cases h2 : (n : Int) < 10
  · go_enter Tryd.func64, Tryd.ntmps64
    go_wp2
    go_ret
    exact ⟨ret_int (by rw [Int.toNat_natCast, hf.out, if_pos h2]), rfl⟩
  · go_enter Tryd.func64, Tryd.ntmps64
    go_wp2
    go_ret
    exact ⟨ret_int (by (first | rw [hf.out, if_neg (by omega)] | rw [Int.toNat_natCast, hf.out, if_neg (by omega)]); omega), rfl⟩

def digs (u : Nat) : List UInt8 := if u = 0 then [] else Lib.decDigits u
theorem digs_zero : digs 0 = [] := rfl
theorem digs_step {u : Nat} (h : 0 < u) : digs u = digs (u / 10) ++ [UInt8.ofNat (48 + u % 10)] := by
  unfold digs
  rw [if_neg (by omega), Lib.decDigits]
  by_cases h1 : u < 10
  · rw [dif_pos h1, if_pos (by omega), List.nil_append, show u % 10 = u from by omega]
  · rw [dif_neg h1, if_neg (by omega)]
theorem itoa_pos {n : Int} (h : 0 < n) : Lib.itoa n = digs n.natAbs := by
  unfold Lib.itoa digs
  rw [if_neg (by omega), if_neg (by omega)]
  congr 1
  omega
theorem itoa_minus {n : Int} (h : n < 0) : Lib.itoa n = 45 :: digs n.natAbs := by
  unfold Lib.itoa digs
  rw [if_pos h, if_neg (by omega)]
theorem itoa_zero : Lib.itoa 0 = [48] := by
  unfold Lib.itoa
  rw [if_neg (by omega), Lib.decDigits, dif_pos (by decide)]
  rfl
theorem figC_dec {n : Nat} (h : n < 10) : figC n = UInt8.ofNat (48 + n) := by unfold figC; rw [if_pos h]
theorem str_cons (c : UInt8) (l : List UInt8) : (⟨[c].toArray⟩ : ByteArray) ++ ⟨l.toArray⟩ = ⟨(c :: l).toArray⟩ := by
  apply str_ext
  simp
theorem tmod_neg {m : Int} (h : m < 0) : m.tmod 10 = -((m.natAbs % 10 : Nat) : Int) := by
  have e : m = -((m.natAbs : Nat) : Int) := by omega
  rw [e, Int.neg_tmod, Int.tmod_eq_emod_of_nonneg (by omega)]
  omega
theorem tdiv_neg {m : Int} (h : m < 0) : m.tdiv 10 = -((m.natAbs / 10 : Nat) : Int) := by
  have e : m = -((m.natAbs : Nat) : Int) := by omega
  rw [e, Int.neg_tdiv, Int.tdiv_eq_ediv_of_nonneg (by omega)]
  omega
--WALK--
set_option maxHeartbeats 800000 in
theorem spec_Decimal (n : Int) (h0 : -9223372036854775808 ≤ n) (h1 : n ≤ 9223372036854775807) (w : World) :
    Calls Tryd.prog 56 #[.int .i64 n] w fun e w' => e = .returned (.string ⟨(Lib.itoa n).toArray⟩) ∧ Below w.heap.size w w' := by
  by_cases hz : n = 0
  · subst hz
    go_enter Tryd.func56, Tryd.ntmps56
    go_wp2_with fail
    go_ret
    exact ⟨by rw [itoa_zero]; rfl, Below.refl _ _⟩
  have hz' : (n == 0) = false := by simpa using hz
  by_cases hn : n < 0
  · have HT := Lib.hid (itoa_minus hn)
    have HN : Hid ((digs n.natAbs).length ≤ 21) := Lib.hid (by have := Lib.itoa_length_le n h0 h1; rw [HT.out, List.length_cons] at this; omega)
    go_enter Tryd.func56, Tryd.ntmps56
    go_wp2_with fail
    go_loopw [0, 4] (fun nv sv wr => ∃ (m : Int) (l : List UInt8), m ≤ 0 ∧ n ≤ m ∧ nv = .int .i64 m ∧ sv = .string ⟨l.toArray⟩ ∧ Hid (digs m.natAbs ++ l = digs n.natAbs) ∧ Hid (Below w.heap.size w wr)) (fun nv _ _ => (intOf nv).natAbs)
    case atStart => exact ⟨n, [], by omega, by omega, rfl, rfl, Lib.hid (by simp), Lib.hid (Below.refl _ _)⟩
    case round =>
      obtain ⟨m, l, hm0, hm1, rfl, rfl, HL, HB⟩ := hrel
      have hll : l.length ≤ 21 := by have h2 := HN.out; rw [← HL.out, List.length_append] at h2; omega
      by_cases hm : m = 0
      · subst hm
        have HD : Hid (l = digs n.natAbs) := Lib.hid (by have := HL.out; simpa [digs_zero] using this)
        have HS : Hid ((⟨#[45]⟩ : ByteArray) ++ ⟨l.toArray⟩ = ⟨(Lib.itoa n).toArray⟩) := Lib.hid (by rw [HT.out, ← HD.out]; exact str_cons 45 l)
        go_wp2_with fail
        go_ret
        exact ⟨ret_str HS.out, HB.out⟩
      · have hm' : (m != 0) = true := by simpa using hm
        have hlt : m < 0 := by omega
        have t3 := tmod_neg hlt
        have d3 := tdiv_neg hlt
        have hu : 0 < m.natAbs := by omega
        have t1 : m.tmod 10 ≤ 0 := by omega
        have t2 : -10 < m.tmod 10 := by omega
        have d1 : m.tdiv 10 ≤ 0 := by omega
        have d2 : n ≤ m.tdiv 10 := by omega
        have hna : (m.tdiv 10).natAbs = m.natAbs / 10 := by omega
        have hnb : (-(m.tmod 10)).toNat = m.natAbs % 10 := by omega
        have hmea : (m.tdiv 10).natAbs < m.natAbs := by omega
        have HL2 : Hid (digs (m.tdiv 10).natAbs ++ (figC (-(m.tmod 10)).toNat :: l) = digs n.natAbs) := Lib.hid (by
          rw [hna, hnb, figC_dec (by omega), ← HL.out, digs_step hu]; simp)
        have HM := Lib.hid hmea
        clear t3 d3 hna hnb hu hmea
        by_cases t4 : m.tmod 10 < 0
        · go_wp2_with fail
          refine (spec_l01Figure (-(m.tmod 10)) _ (by omega) (by omega)).mono ?_
          rintro e w1 ⟨rfl, rfl⟩
          generalize hc : figC (-(m.tmod 10)).toNat = fc at *
          clear hc
          have cv := str_run (w := wr.alloc (.cells #[.int .u8 (fc.toNat : Int)] 5)) (A := some ⟨wr.heap.size, 0, none⟩) (n := 1) 1 (l := [fc]) (Rd.new wr 1 1 _ _ rfl)
          have HB2 := Lib.hid (HB.out.alloc HB.out.size (.cells #[.int .u8 (fc.toNat : Int)] 5))
          have HC := Lib.hid (str_cons fc l)
          go_wp2_with fail
          go_roundw
          case rel => exact ⟨m.tdiv 10, fc :: l, d1, d2, by go_num, by rw [← HC.out], HL2, HB2⟩
          case measure => exact HM.out
        · have t5 : m.tmod 10 = 0 := by omega
          rw [show (-(m.tmod 10)) = 0 from by omega] at HL2
          go_wp2_with fail
          refine (spec_l01Figure (0) _ (by omega) (by omega)).mono ?_
          rintro e w1 ⟨rfl, rfl⟩
          generalize hc : figC (0 : Int).toNat = fc at *
          clear hc
          have cv := str_run (w := wr.alloc (.cells #[.int .u8 (fc.toNat : Int)] 5)) (A := some ⟨wr.heap.size, 0, none⟩) (n := 1) 1 (l := [fc]) (Rd.new wr 1 1 _ _ rfl)
          have HB2 := Lib.hid (HB.out.alloc HB.out.size (.cells #[.int .u8 (fc.toNat : Int)] 5))
          have HC := Lib.hid (str_cons fc l)
          go_wp2_with fail
          go_roundw
          case rel => exact ⟨m.tdiv 10, fc :: l, d1, d2, by go_num, by rw [← HC.out], HL2, HB2⟩
          case measure => exact HM.out
  have hp : 0 < n := by omega
  clear hz hz'
  have hz' : (n == 0) = false := by simp; omega
  by_cases hpp : True
  · have HT := Lib.hid (itoa_pos hp)
    have HN : Hid ((digs n.natAbs).length ≤ 21) := Lib.hid (by have := Lib.itoa_length_le n h0 h1; rw [HT.out] at this; omega)
    go_enter Tryd.func56, Tryd.ntmps56
    go_wp2_with fail
    go_loopw [0, 4] (fun nv sv wr => ∃ (m : Int) (l : List UInt8), 0 ≤ m ∧ m ≤ n ∧ nv = .int .i64 m ∧ sv = .string ⟨l.toArray⟩ ∧ Hid (digs m.natAbs ++ l = digs n.natAbs) ∧ Hid (Below w.heap.size w wr)) (fun nv _ _ => (intOf nv).natAbs)
    case atStart => exact ⟨n, [], by omega, by omega, rfl, rfl, Lib.hid (by simp), Lib.hid (Below.refl _ _)⟩
    case round =>
      obtain ⟨m, l, hm0, hm1, rfl, rfl, HL, HB⟩ := hrel
      have hll : l.length ≤ 21 := by have h2 := HN.out; rw [← HL.out, List.length_append] at h2; omega
      by_cases hm : m = 0
      · subst hm
        have HD : Hid (l = digs n.natAbs) := Lib.hid (by have := HL.out; simpa [digs_zero] using this)
        have HS : Hid ((⟨l.toArray⟩ : ByteArray) = ⟨(Lib.itoa n).toArray⟩) := Lib.hid (by rw [HT.out, ← HD.out])
        go_wp2_with fail
        go_ret
        exact ⟨ret_str HS.out, HB.out⟩
      · have hm' : (m != 0) = true := by simpa using hm
        have hlt : 0 < m := by omega
        have hu : 0 < m.natAbs := by omega
        have t1 : 0 ≤ m % 10 := by omega
        have t2 : m % 10 < 10 := by omega
        have d1 : 0 ≤ m / 10 := by omega
        have d2 : m / 10 ≤ n := by omega
        have hna : (m / 10).natAbs = m.natAbs / 10 := by omega
        have hnb : (m % 10).toNat = m.natAbs % 10 := by omega
        have hmea : (m / 10).natAbs < m.natAbs := by omega
        have t3 := True.intro
        have d3 := True.intro
        have HL2 : Hid (digs (m / 10).natAbs ++ (figC (m % 10).toNat :: l) = digs n.natAbs) := Lib.hid (by
          rw [hna, hnb, figC_dec (by omega), ← HL.out, digs_step hu]; simp)
        have HM := Lib.hid hmea
        clear t3 d3 hna hnb hu hmea
        have t4 : ¬ m % 10 < 0 := by omega
        go_wp2_with fail
        refine (spec_l01Figure (m % 10) _ (by omega) (by omega)).mono ?_
        rintro e w1 ⟨rfl, rfl⟩
        generalize hc : figC (m % 10).toNat = fc at *
        clear hc
        have cv := str_run (w := wr.alloc (.cells #[.int .u8 (fc.toNat : Int)] 5)) (A := some ⟨wr.heap.size, 0, none⟩) (n := 1) 1 (l := [fc]) (Rd.new wr 1 1 _ _ rfl)
        have HB2 := Lib.hid (HB.out.alloc HB.out.size (.cells #[.int .u8 (fc.toNat : Int)] 5))
        have HC := Lib.hid (str_cons fc l)
        go_wp2_with fail
        go_roundw
        case rel => exact ⟨m / 10, fc :: l, d1, d2, by go_num, by rw [← HC.out], HL2, HB2⟩
        case measure => exact HM.out
  · exact absurd trivial hpp
theorem below_grow {w : World} {k : Nat} {os : Array Obj} : Below w.heap.size w (Sort.grow (w.drewN k) os) := by
  refine ⟨rfl, rfl, rfl, by simp [Sort.grow], fun j hj => ?_⟩
  simp only [Sort.grow]
  exact Array.getElem?_append_left hj
theorem impl_Decimal (n : Int) (h0 : -9223372036854775808 ≤ n) (h1 : n ≤ 9223372036854775807) (w : World) (tab : Lib.TabIs Tryd.prog w "internal/strconv.uint64pow10" .u64 Lib.pow10Tab) :
    Calls Tryd.prog 65 #[.int .i64 n] w fun e w' => e = .returned (.string ⟨(Lib.itoa n).toArray⟩) ∧ Below w.heap.size w w' := by
  have TB := Lib.hid tab
  clear tab
  go_enter Tryd.func65, Tryd.ntmps65
  go_wp2_with fail
  refine (Tryd.strconv_Itoa n h0 h1 w TB.out).mono ?_
  rintro e w1 ⟨rfl, k, os, rfl⟩
  have B1 := Lib.hid (below_grow (w := w) (k := k) (os := os))
  generalize Sort.grow (w.drewN k) os = w1 at *
  go_wp2_with fail
  go_ret
  exact ⟨rfl, B1.out⟩

def isDig (c : UInt8) : Bool := decide (48 ≤ c.toNat) && decide (c.toNat ≤ 57)
def valL (l : List UInt8) : Nat := l.foldl (fun n c => n * 10 + (c.toNat - 48)) 0
theorem valL_snoc (l : List UInt8) (c : UInt8) : valL (l ++ [c]) = valL l * 10 + (c.toNat - 48) := by simp [valL]
theorem valL_lt (l : List UInt8) (h : l.all isDig = true) : valL l < 10 ^ l.length := by
  have key : ∀ (l : List UInt8) (n m : Nat), l.all isDig = true → n < 10 ^ m → l.foldl (fun n c => n * 10 + (c.toNat - 48)) n < 10 ^ (m + l.length) := by
    intro l
    induction l with
    | nil => intro n m _ h; exact h
    | cons c r ih =>
      intro n m ha h
      rw [List.all_cons, Bool.and_eq_true] at ha
      have hc := ha.1
      unfold isDig at hc
      rw [Bool.and_eq_true, decide_eq_true_eq, decide_eq_true_eq] at hc
      have h2 : n * 10 + (c.toNat - 48) < 10 ^ (m + 1) := by rw [Nat.pow_succ]; omega
      have := ih _ (m + 1) ha.2 h2
      rw [List.foldl_cons, List.length_cons, show m + (r.length + 1) = m + 1 + r.length from by omega]
      exact this
  have := key l 0 0 h (by decide)
  rw [Nat.zero_add] at this
  exact this
theorem valL_bd (l : List UInt8) (h : l.all isDig = true) (hl : l.length ≤ 10) : valL l < 10000000000 :=
  Nat.lt_of_lt_of_le (valL_lt l h) (Nat.pow_le_pow_right (n := 10) (by decide) hl)
def readD (s : ByteArray) : Int × Bool :=
  if s.size ≤ 10 ∧ s.data.toList.all isDig = true ∧ valL s.data.toList ≤ 1000000000 ∧ (⟨(Lib.itoa (valL s.data.toList : Int)).toArray⟩ : ByteArray) = s then ((valL s.data.toList : Int), true) else (0, false)
theorem readD_yes {s : ByteArray} (h1 : s.size ≤ 10) (h2 : s.data.toList.all isDig = true) (h3 : valL s.data.toList ≤ 1000000000) (h4 : (⟨(Lib.itoa (valL s.data.toList : Int)).toArray⟩ : ByteArray) = s) : readD s = ((valL s.data.toList : Int), true) := by
  unfold readD; rw [if_pos ⟨h1, h2, h3, h4⟩]
theorem readD_no {s : ByteArray} (h : ¬ s.size ≤ 10 ∨ s.data.toList.all isDig = false ∨ ¬ valL s.data.toList ≤ 1000000000 ∨ (⟨(Lib.itoa (valL s.data.toList : Int)).toArray⟩ : ByteArray) ≠ s) : readD s = (0, false) := by
  unfold readD
  rw [if_neg]
  rintro ⟨h1, h2, h3, h4⟩
  rcases h with h | h | h | h
  · exact h h1
  · rw [h2] at h; cases h
  · exact h h3
  · exact h h4
theorem dig_no (s : ByteArray) (k : Nat) (h : k < s.size) (hb : isDig s[k] = false) : s.data.toList.all isDig = false := by
  rw [List.all_eq_false]
  have hm : s[k] ∈ s.data.toList := by
    have h2 : k < s.data.toList.length := by simpa using h
    have : s.data.toList[k] = s[k] := rfl
    rw [← this]; exact List.getElem_mem h2
  exact ⟨_, hm, by simp [hb]⟩
theorem take_snoc (s : ByteArray) (k : Nat) (h : k < s.size) : s.data.toList.take (k + 1) = s.data.toList.take k ++ [s[k]] := by
  rw [List.take_succ_eq_append_getElem (by simpa using h)]
  rfl
theorem str_eq_list (l : List UInt8) (s : ByteArray) : (l == s.toList) = decide ((⟨l.toArray⟩ : ByteArray) = s) := by
  rw [← str_eq, Lib.toList_data (⟨l.toArray⟩ : ByteArray)]
theorem empty_read : readD ByteArray.empty = (0, false) := readD_no (.inr (.inr (.inr (by
  have e : valL ByteArray.empty.data.toList = 0 := rfl
  rw [e, show ((0 : Nat) : Int) = 0 from rfl, itoa_zero]
  intro h
  have := congrArg ByteArray.size h
  exact absurd this (by decide)))))
set_option maxHeartbeats 1600000 in
theorem spec_ReadDecimal (s : ByteArray) (w : World) :
    Calls Tryd.prog 43 #[.string s] w fun e w' => e = .returned (.tuple #[.int .i64 (readD s).1, .bool (readD s).2]) ∧ Below w.heap.size w w' := by
  by_cases hl : 10 < s.size
  · have F := Lib.hid (readD_no (s := s) (.inl (by omega)))
    go_enter Tryd.func43, Tryd.ntmps43
    go_wp2_with fail
    go_ret2
    rw [F.out]
    exact ⟨rfl, Below.refl _ _⟩
  go_enter Tryd.func43, Tryd.ntmps43
  go_wp2_with fail
  go_loopw [4, 5] (fun nv i wr => ∃ k : Nat, k ≤ s.size ∧ i = .int .i64 k ∧ nv = .int .i64 (valL (s.data.toList.take k) : Int) ∧ wr = w ∧ Hid ((s.data.toList.take k).all isDig = true)) (fun _ i _ => s.size - (intOf i).toNat)
  case atStart => exact ⟨0, Nat.zero_le _, rfl, rfl, rfl, Lib.hid rfl⟩
  case round =>
    obtain ⟨k, hk, rfl, rfl, rfl, HA⟩ := hrel
    have hv := valL_bd _ HA.out (by rw [List.length_take]; omega)
    by_cases hlt : k < s.size
    · have h0k : (0 : Int) ≤ (k : Int) := by omega
      have h1k : (k : Int) < (s.size : Int) := by omega
      have hcb : s[k].toNat < 256 := s[k].toNat_lt
      have HN := Lib.hid (dig_no s k hlt)
      have HS := Lib.hid (take_snoc s k hlt)
      by_cases c1 : s[k].toNat < 48
      · have F := Lib.hid (readD_no (s := s) (.inr (.inl (HN.out (by unfold isDig; rw [decide_eq_false (by omega)]; rfl)))))
        have c1' : (s[k].toNat : Int) < 48 := by omega
        clear c1
        go_wp2_with fail
        go_ret2
        rw [F.out]
        exact ⟨rfl, Below.refl _ _⟩
      · by_cases c2 : 57 < s[k].toNat
        · have F := Lib.hid (readD_no (s := s) (.inr (.inl (HN.out (by unfold isDig; rw [decide_eq_false (p := s[k].toNat ≤ 57) (by omega)]; simp)))))
          have c1' : ¬ (s[k].toNat : Int) < 48 := by omega
          have c2' : 57 < (s[k].toNat : Int) := by omega
          clear c1 c2
          go_wp2_with fail
          go_ret2
          rw [F.out]
          exact ⟨rfl, Below.refl _ _⟩
        · have c1' : ¬ (s[k].toNat : Int) < 48 := by omega
          have c2' : ¬ 57 < (s[k].toNat : Int) := by omega
          have HV : Hid ((valL (s.data.toList.take (k + 1)) : Int) = (valL (s.data.toList.take k) : Int) * 10 + ((s[k].toNat : Int) - 48)) := Lib.hid (by rw [HS.out, valL_snoc]; omega)
          have HA2 : Hid ((s.data.toList.take (k + 1)).all isDig = true) := Lib.hid (by
            rw [HS.out, List.all_append, HA.out]
            have e : isDig s[k] = true := by unfold isDig; rw [decide_eq_true (by omega), decide_eq_true (by omega)]; rfl
            simp only [List.all_cons, List.all_nil, e]; rfl)
          clear c1 c2 HS
          go_wp2_with fail
          go_roundw
          case rel => exact ⟨k + 1, by omega, by go_num, by rw [HV.out]; try (congr 1; omega), by first | rfl | trivial, HA2⟩
          case measure => simp [intOf]; omega
    · have hT : s.data.toList.take k = s.data.toList := List.take_of_length_le (by simp; omega)
      rw [hT] at hv HA ⊢
      have F2 := Lib.hid (readD_no (s := s))
      have F1 := Lib.hid (readD_yes (s := s) (by omega) HA.out)
      have FM : Hid (readD s = readD s) := Lib.hid rfl
      generalize hm : valL s.data.toList = m at *
      have HM := Lib.hid hm
      clear hT hm
      by_cases g1 : m ≤ 1000000000
      · have g1' : ¬ (1000000000 : Int) < (m : Int) := by omega
        have q := str_eq_list (Lib.itoa (m : Int)) s
        have hz0 : (-9223372036854775808 : Int) ≤ (m : Int) := by omega
        have hz1 : (m : Int) ≤ 9223372036854775807 := by omega
        by_cases g2 : (⟨(Lib.itoa (m : Int)).toArray⟩ : ByteArray) = s
        · have F := Lib.hid (F1.out g1 g2)
          have G2 := Lib.hid g2
          rw [decide_eq_true g2] at q
          have Q := Lib.hid q
          clear g2 q
          go_wp2_with fail
          refine (spec_Decimal (m : Int) hz0 hz1 _).mono ?_
          rintro e w1 ⟨rfl, b1⟩
          have B1 := Lib.hid b1
          have q := Q.out
          clear b1
          go_wp2_with fail
          go_ret2
          rw [F.out]
          exact ⟨rfl, B1.out⟩
        · have F := Lib.hid (F2.out (.inr (.inr (.inr g2))))
          rw [decide_no g2] at q
          have Q := Lib.hid q
          clear g2 q
          go_wp2_with fail
          refine (spec_Decimal (m : Int) hz0 hz1 _).mono ?_
          rintro e w1 ⟨rfl, b1⟩
          have B1 := Lib.hid b1
          have q := Q.out
          clear b1
          go_wp2_with fail
          go_ret2
          rw [F.out]
          exact ⟨rfl, B1.out⟩
      · have g1' : (1000000000 : Int) < (m : Int) := by omega
        have F := Lib.hid (F2.out (.inr (.inr (.inl g1))))
        go_wp2_with fail
        go_ret2
        rw [F.out]
        exact ⟨rfl, Below.refl _ _⟩
set_option maxHeartbeats 1600000 in
theorem impl_ReadDecimal (s : ByteArray) (w : World) (tab : Lib.TabIs Tryd.prog w "internal/strconv.uint64pow10" .u64 Lib.pow10Tab) :
    Calls Tryd.prog 60 #[.string s] w fun e w' => e = .returned (.tuple #[.int .i64 (readD s).1, .bool (readD s).2]) ∧ Below w.heap.size w w' := by
  have TB := Lib.hid tab
  clear tab
  by_cases hz : s.size = 0
  · have F : Hid (readD s = (0, false)) := Lib.hid (by
      have : s = ByteArray.empty := str_ext (List.eq_nil_of_length_eq_zero (by simpa using hz))
      rw [this]; exact empty_read)
    go_enter Tryd.func60, Tryd.ntmps60
    go_wp2_with fail
    go_ret2
    rw [F.out]
    exact ⟨rfl, Below.refl _ _⟩
  have hz' : ((s.size : Int) == 0) = false := beq_eq_false_iff_ne.2 (by omega)
  have hzz : s.size ≠ 0 := hz
  by_cases hl : 10 < s.size
  · have F := Lib.hid (readD_no (s := s) (.inl (by omega)))
    go_enter Tryd.func60, Tryd.ntmps60
    go_wp2_with fail
    go_ret2
    rw [F.out]
    exact ⟨rfl, Below.refl _ _⟩
  go_enter Tryd.func60, Tryd.ntmps60
  go_wp2_with fail
  go_loopw [4, 5] (fun nv i wr => ∃ k : Nat, k ≤ s.size ∧ i = .int .i64 k ∧ nv = .int .i64 (valL (s.data.toList.take k) : Int) ∧ wr = w ∧ Hid ((s.data.toList.take k).all isDig = true)) (fun _ i _ => s.size - (intOf i).toNat)
  case atStart => exact ⟨0, Nat.zero_le _, rfl, rfl, rfl, Lib.hid rfl⟩
  case round =>
    obtain ⟨k, hk, rfl, rfl, rfl, HA⟩ := hrel
    have hv := valL_bd _ HA.out (by rw [List.length_take]; omega)
    by_cases hlt : k < s.size
    · have h0k : (0 : Int) ≤ (k : Int) := by omega
      have h1k : (k : Int) < (s.size : Int) := by omega
      have hcb : s[k].toNat < 256 := s[k].toNat_lt
      have HN := Lib.hid (dig_no s k hlt)
      have HS := Lib.hid (take_snoc s k hlt)
      by_cases c1 : s[k].toNat < 48
      · have F := Lib.hid (readD_no (s := s) (.inr (.inl (HN.out (by unfold isDig; rw [decide_eq_false (by omega)]; rfl)))))
        have c1' : (s[k].toNat : Int) < 48 := by omega
        clear c1
        go_wp2_with fail
        go_ret2
        rw [F.out]
        exact ⟨rfl, Below.refl _ _⟩
      · by_cases c2 : 57 < s[k].toNat
        · have F := Lib.hid (readD_no (s := s) (.inr (.inl (HN.out (by unfold isDig; rw [decide_eq_false (p := s[k].toNat ≤ 57) (by omega)]; simp)))))
          have c1' : ¬ (s[k].toNat : Int) < 48 := by omega
          have c2' : 57 < (s[k].toNat : Int) := by omega
          clear c1 c2
          go_wp2_with fail
          go_ret2
          rw [F.out]
          exact ⟨rfl, Below.refl _ _⟩
        · have c1' : ¬ (s[k].toNat : Int) < 48 := by omega
          have c2' : ¬ 57 < (s[k].toNat : Int) := by omega
          have HV : Hid ((valL (s.data.toList.take (k + 1)) : Int) = (valL (s.data.toList.take k) : Int) * 10 + ((s[k].toNat : Int) - 48)) := Lib.hid (by rw [HS.out, valL_snoc]; omega)
          have HA2 : Hid ((s.data.toList.take (k + 1)).all isDig = true) := Lib.hid (by
            rw [HS.out, List.all_append, HA.out]
            have e : isDig s[k] = true := by unfold isDig; rw [decide_eq_true (by omega), decide_eq_true (by omega)]; rfl
            simp only [List.all_cons, List.all_nil, e]; rfl)
          clear c1 c2 HS
          go_wp2_with fail
          go_roundw
          case rel => exact ⟨k + 1, by omega, by go_num, by rw [HV.out]; try (congr 1; omega), by first | rfl | trivial, HA2⟩
          case measure => simp [intOf]; omega
    · have hT : s.data.toList.take k = s.data.toList := List.take_of_length_le (by simp; omega)
      rw [hT] at hv HA ⊢
      have F2 := Lib.hid (readD_no (s := s))
      have F1 := Lib.hid (readD_yes (s := s) (by omega) HA.out)
      have FM : Hid (readD s = readD s) := Lib.hid rfl
      generalize hm : valL s.data.toList = m at *
      have HM := Lib.hid hm
      clear hT hm
      by_cases g1 : m ≤ 1000000000
      · have g1' : ¬ (1000000000 : Int) < (m : Int) := by omega
        have q := str_eq_list (Lib.itoa (m : Int)) s
        have hz0 : (-9223372036854775808 : Int) ≤ (m : Int) := by omega
        have hz1 : (m : Int) ≤ 9223372036854775807 := by omega
        by_cases g2 : (⟨(Lib.itoa (m : Int)).toArray⟩ : ByteArray) = s
        · have F := Lib.hid (F1.out g1 g2)
          have G2 := Lib.hid g2
          rw [decide_eq_true g2] at q
          have Q := Lib.hid q
          clear g2 q
          go_wp2_with fail
          refine (impl_Decimal (m : Int) hz0 hz1 _ TB.out).mono ?_
          rintro e w1 ⟨rfl, b1⟩
          have B1 := Lib.hid b1
          have q := Q.out
          clear b1
          go_wp2_with fail
          go_ret2
          rw [F.out]
          exact ⟨rfl, B1.out⟩
        · have F := Lib.hid (F2.out (.inr (.inr (.inr g2))))
          rw [decide_no g2] at q
          have Q := Lib.hid q
          clear g2 q
          go_wp2_with fail
          refine (impl_Decimal (m : Int) hz0 hz1 _ TB.out).mono ?_
          rintro e w1 ⟨rfl, b1⟩
          have B1 := Lib.hid b1
          have q := Q.out
          clear b1
          go_wp2_with fail
          go_ret2
          rw [F.out]
          exact ⟨rfl, B1.out⟩
      · have g1' : (1000000000 : Int) < (m : Int) := by omega
        have F := Lib.hid (F2.out (.inr (.inr (.inl g1))))
        go_wp2_with fail
        go_ret2
        rw [F.out]
        exact ⟨rfl, Below.refl _ _⟩
end Go.Proofs.YtdanlgmpgdipnaaDoor
