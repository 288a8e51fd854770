/- Several texts in one: Itoa, Txt. -/
import Derived.Test.YtefcdpkficojgaaDoorKa14
import Derived.Test.YtefcdpkficojgaaDoorShelf
import Derived.Lib.LaidTab
import Derived.Lib.ItoaLen
namespace Go.Proofs.YtefcdpkficojgaaDoor
open Go.RowKit
set_option linter.unusedVariables false


def digs (u : Nat) : List UInt8 := if u = 0 then [] else Lib.decDigits u
theorem digs_zero : digs 0 = [] := rfl
theorem digs_step {u : Nat} (h : 0 < u) : digs u = digs (u / 10) ++ [UInt8.ofNat (48 + u % 10)] := by
  unfold digs
  rw [if_neg (by omega), Lib.decDigits]
  by_cases h1 : u < 10
  · rw [dif_pos h1, if_pos (by omega), List.nil_append, show u % 10 = u from by omega]
  · rw [dif_neg h1, if_neg (by omega)]
theorem itoa_pos {n : Int} (h : 0 < n) : Lib.itoa n = digs n.natAbs := by
  unfold Lib.itoa digs
  rw [if_neg (by omega), if_neg (by omega)]
  congr 1
  omega
theorem itoa_minus {n : Int} (h : n < 0) : Lib.itoa n = 45 :: digs n.natAbs := by
  unfold Lib.itoa digs
  rw [if_pos h, if_neg (by omega)]
theorem itoa_zero : Lib.itoa 0 = [48] := by
  unfold Lib.itoa
  rw [if_neg (by omega), Lib.decDigits, dif_pos (by decide)]
  rfl
theorem figC_dec {n : Nat} (h : n < 10) : figC n = UInt8.ofNat (48 + n) := by unfold figC; rw [if_pos h]
theorem str_cons (c : UInt8) (l : List UInt8) : (⟨[c].toArray⟩ : ByteArray) ++ ⟨l.toArray⟩ = ⟨(c :: l).toArray⟩ := by
  apply str_ext
  simp
theorem tmod_neg {m : Int} (h : m < 0) : m.tmod 10 = -((m.natAbs % 10 : Nat) : Int) := by
  have e : m = -((m.natAbs : Nat) : Int) := by omega
  rw [e, Int.neg_tmod, Int.tmod_eq_emod_of_nonneg (by omega)]
  omega
theorem tdiv_neg {m : Int} (h : m < 0) : m.tdiv 10 = -((m.natAbs / 10 : Nat) : Int) := by
  have e : m = -((m.natAbs : Nat) : Int) := by omega
  rw [e, Int.neg_tdiv, Int.tdiv_eq_ediv_of_nonneg (by omega)]
  omega
--WALK--
set_option maxHeartbeats 800000 in
theorem spec_Decimal (n : Int) (h0 : -9223372036854775808 ≤ n) (h1 : n ≤ 9223372036854775807) (w : World) :
    Calls Tryd.prog 89 #[.int .i64 n] w fun e w' => e = .returned (.string ⟨(Lib.itoa n).toArray⟩) ∧ Below w.heap.size w w' := by
  by_cases hz : n = 0
  · subst hz
    go_enter Tryd.func89, Tryd.ntmps89
    go_wp2_with fail
    go_ret
    exact ⟨by rw [itoa_zero]; rfl, Below.refl _ _⟩
  have hz' : (n == 0) = false := by simpa using hz
  by_cases hn : n < 0
  · have HT := Lib.hid (itoa_minus hn)
    have HN : Hid ((digs n.natAbs).length ≤ 21) := Lib.hid (by have := Lib.itoa_length_le n h0 h1; rw [HT.out, List.length_cons] at this; omega)
    go_enter Tryd.func89, Tryd.ntmps89
    go_wp2_with fail
    go_loopw [0, 4] (fun nv sv wr => ∃ (m : Int) (l : List UInt8), m ≤ 0 ∧ n ≤ m ∧ nv = .int .i64 m ∧ sv = .string ⟨l.toArray⟩ ∧ Hid (digs m.natAbs ++ l = digs n.natAbs) ∧ Hid (Below w.heap.size w wr)) (fun nv _ _ => (intOf nv).natAbs)
    case atStart => exact ⟨n, [], by omega, by omega, rfl, rfl, Lib.hid (by simp), Lib.hid (Below.refl _ _)⟩
    case round =>
      obtain ⟨m, l, hm0, hm1, rfl, rfl, HL, HB⟩ := hrel
      have hll : l.length ≤ 21 := by have h2 := HN.out; rw [← HL.out, List.length_append] at h2; omega
      by_cases hm : m = 0
      · subst hm
        have HD : Hid (l = digs n.natAbs) := Lib.hid (by have := HL.out; simpa [digs_zero] using this)
        have HS : Hid ((⟨#[45]⟩ : ByteArray) ++ ⟨l.toArray⟩ = ⟨(Lib.itoa n).toArray⟩) := Lib.hid (by rw [HT.out, ← HD.out]; exact str_cons 45 l)
        go_wp2_with fail
        go_ret
        exact ⟨ret_str HS.out, HB.out⟩
      · have hm' : (m != 0) = true := by simpa using hm
        have hlt : m < 0 := by omega
        have t3 := tmod_neg hlt
        have d3 := tdiv_neg hlt
        have hu : 0 < m.natAbs := by omega
        have t1 : m.tmod 10 ≤ 0 := by omega
        have t2 : -10 < m.tmod 10 := by omega
        have d1 : m.tdiv 10 ≤ 0 := by omega
        have d2 : n ≤ m.tdiv 10 := by omega
        have hna : (m.tdiv 10).natAbs = m.natAbs / 10 := by omega
        have hnb : (-(m.tmod 10)).toNat = m.natAbs % 10 := by omega
        have hmea : (m.tdiv 10).natAbs < m.natAbs := by omega
        have HL2 : Hid (digs (m.tdiv 10).natAbs ++ (figC (-(m.tmod 10)).toNat :: l) = digs n.natAbs) := Lib.hid (by
          rw [hna, hnb, figC_dec (by omega), ← HL.out, digs_step hu]; simp)
        have HM := Lib.hid hmea
        clear t3 d3 hna hnb hu hmea
        by_cases t4 : m.tmod 10 < 0
        · go_wp2_with fail
          refine (spec_l01Figure (-(m.tmod 10)) _ (by omega) (by omega)).mono ?_
          rintro e w1 ⟨rfl, rfl⟩
          generalize hc : figC (-(m.tmod 10)).toNat = fc at *
          clear hc
          have cv := str_run (w := wr.alloc (.cells #[.int .u8 (fc.toNat : Int)] 5)) (A := some ⟨wr.heap.size, 0, none⟩) (n := 1) 1 (l := [fc]) (Rd.new wr 1 1 _ _ rfl)
          have HB2 := Lib.hid (HB.out.alloc HB.out.size (.cells #[.int .u8 (fc.toNat : Int)] 5))
          have HC := Lib.hid (str_cons fc l)
          go_wp2_with fail
          go_roundw
          case rel => exact ⟨m.tdiv 10, fc :: l, d1, d2, by go_num, by rw [← HC.out], HL2, HB2⟩
          case measure => exact HM.out
        · have t5 : m.tmod 10 = 0 := by omega
          rw [show (-(m.tmod 10)) = 0 from by omega] at HL2
          go_wp2_with fail
          refine (spec_l01Figure (0) _ (by omega) (by omega)).mono ?_
          rintro e w1 ⟨rfl, rfl⟩
          generalize hc : figC (0 : Int).toNat = fc at *
          clear hc
          have cv := str_run (w := wr.alloc (.cells #[.int .u8 (fc.toNat : Int)] 5)) (A := some ⟨wr.heap.size, 0, none⟩) (n := 1) 1 (l := [fc]) (Rd.new wr 1 1 _ _ rfl)
          have HB2 := Lib.hid (HB.out.alloc HB.out.size (.cells #[.int .u8 (fc.toNat : Int)] 5))
          have HC := Lib.hid (str_cons fc l)
          go_wp2_with fail
          go_roundw
          case rel => exact ⟨m.tdiv 10, fc :: l, d1, d2, by go_num, by rw [← HC.out], HL2, HB2⟩
          case measure => exact HM.out
  have hp : 0 < n := by omega
  clear hz hz'
  have hz' : (n == 0) = false := by simp; omega
  by_cases hpp : True
  · have HT := Lib.hid (itoa_pos hp)
    have HN : Hid ((digs n.natAbs).length ≤ 21) := Lib.hid (by have := Lib.itoa_length_le n h0 h1; rw [HT.out] at this; omega)
    go_enter Tryd.func89, Tryd.ntmps89
    go_wp2_with fail
    go_loopw [0, 4] (fun nv sv wr => ∃ (m : Int) (l : List UInt8), 0 ≤ m ∧ m ≤ n ∧ nv = .int .i64 m ∧ sv = .string ⟨l.toArray⟩ ∧ Hid (digs m.natAbs ++ l = digs n.natAbs) ∧ Hid (Below w.heap.size w wr)) (fun nv _ _ => (intOf nv).natAbs)
    case atStart => exact ⟨n, [], by omega, by omega, rfl, rfl, Lib.hid (by simp), Lib.hid (Below.refl _ _)⟩
    case round =>
      obtain ⟨m, l, hm0, hm1, rfl, rfl, HL, HB⟩ := hrel
      have hll : l.length ≤ 21 := by have h2 := HN.out; rw [← HL.out, List.length_append] at h2; omega
      by_cases hm : m = 0
      · subst hm
        have HD : Hid (l = digs n.natAbs) := Lib.hid (by have := HL.out; simpa [digs_zero] using this)
        have HS : Hid ((⟨l.toArray⟩ : ByteArray) = ⟨(Lib.itoa n).toArray⟩) := Lib.hid (by rw [HT.out, ← HD.out])
        go_wp2_with fail
        go_ret
        exact ⟨ret_str HS.out, HB.out⟩
      · have hm' : (m != 0) = true := by simpa using hm
        have hlt : 0 < m := by omega
        have hu : 0 < m.natAbs := by omega
        have t1 : 0 ≤ m % 10 := by omega
        have t2 : m % 10 < 10 := by omega
        have d1 : 0 ≤ m / 10 := by omega
        have d2 : m / 10 ≤ n := by omega
        have hna : (m / 10).natAbs = m.natAbs / 10 := by omega
        have hnb : (m % 10).toNat = m.natAbs % 10 := by omega
        have hmea : (m / 10).natAbs < m.natAbs := by omega
        have t3 := True.intro
        have d3 := True.intro
        have HL2 : Hid (digs (m / 10).natAbs ++ (figC (m % 10).toNat :: l) = digs n.natAbs) := Lib.hid (by
          rw [hna, hnb, figC_dec (by omega), ← HL.out, digs_step hu]; simp)
        have HM := Lib.hid hmea
        clear t3 d3 hna hnb hu hmea
        have t4 : ¬ m % 10 < 0 := by omega
        go_wp2_with fail
        refine (spec_l01Figure (m % 10) _ (by omega) (by omega)).mono ?_
        rintro e w1 ⟨rfl, rfl⟩
        generalize hc : figC (m % 10).toNat = fc at *
        clear hc
        have cv := str_run (w := wr.alloc (.cells #[.int .u8 (fc.toNat : Int)] 5)) (A := some ⟨wr.heap.size, 0, none⟩) (n := 1) 1 (l := [fc]) (Rd.new wr 1 1 _ _ rfl)
        have HB2 := Lib.hid (HB.out.alloc HB.out.size (.cells #[.int .u8 (fc.toNat : Int)] 5))
        have HC := Lib.hid (str_cons fc l)
        go_wp2_with fail
        go_roundw
        case rel => exact ⟨m / 10, fc :: l, d1, d2, by go_num, by rw [← HC.out], HL2, HB2⟩
        case measure => exact HM.out
  · exact absurd trivial hpp
theorem below_grow {w : World} {k : Nat} {os : Array Obj} : Below w.heap.size w (Sort.grow (w.drewN k) os) := by
  refine ⟨rfl, rfl, rfl, by simp [Sort.grow], fun j hj => ?_⟩
  simp only [Sort.grow]
  exact Array.getElem?_append_left hj
theorem impl_Decimal (n : Int) (h0 : -9223372036854775808 ≤ n) (h1 : n ≤ 9223372036854775807) (w : World) (tab : Lib.TabIs Tryd.prog w "internal/strconv.uint64pow10" .u64 Lib.pow10Tab) :
    Calls Tryd.prog 96 #[.int .i64 n] w fun e w' => e = .returned (.string ⟨(Lib.itoa n).toArray⟩) ∧ Below w.heap.size w w' := by
  have TB := Lib.hid tab
  clear tab
  go_enter Tryd.func96, Tryd.ntmps96
  go_wp2_with fail
  refine (Tryd.strconv_Itoa n h0 h1 w TB.out).mono ?_
  rintro e w1 ⟨rfl, k, os, rfl⟩
  have B1 := Lib.hid (below_grow (w := w) (k := k) (os := os))
  generalize Sort.grow (w.drewN k) os = w1 at *
  go_wp2_with fail
  go_ret
  exact ⟨rfl, B1.out⟩

def signB (k : Int) : ByteArray := if k = 3 then ⟨#[43]⟩ else if k = 4 then ⟨#[45]⟩ else if k = 5 then ⟨#[42]⟩ else if k = 6 then ⟨#[60]⟩ else if k = 7 then ⟨#[61, 61]⟩ else ⟨#[97, 110, 100]⟩
def signK (k : Int) : List UInt8 := (signB k).data.toList
theorem signK_len (k : Int) : (signK k).length ≤ 3 := by
  unfold signK signB
  repeat' split
  all_goals decide
def joinT (k : Int) (a b : List UInt8) : List UInt8 := if k = 8 then [40, 110, 111, 116, 32] ++ a ++ [41] else [40] ++ a ++ ([32] ++ signK k ++ [32]) ++ b ++ [41]
mutual
def txtT : Tm → List UInt8
  | .mk k n s kids => if k = 1 then Lib.itoa n else if k = 2 then s.data.toList else joinT k ((txtTs kids)[0]?.getD []) ((txtTs kids)[1]?.getD [])
def txtTs : List Tm → List (List UInt8)
  | [] => []
  | t :: r => txtT t :: txtTs r
end
theorem txtT_num {n : Int} {s : ByteArray} {kids : List Tm} : txtT (.mk 1 n s kids) = Lib.itoa n := by rw [txtT, if_pos rfl]
theorem txtT_var {n : Int} {s : ByteArray} {kids : List Tm} : txtT (.mk 2 n s kids) = s.data.toList := by rw [txtT, if_neg (by decide), if_pos rfl]
theorem txtT_one {n : Int} {s : ByteArray} {x : Tm} : txtT (.mk 8 n s [x]) = [40, 110, 111, 116, 32] ++ txtT x ++ [41] := by
  simp [txtT, txtTs, joinT]
theorem txtT_two {k n : Int} {s : ByteArray} {x y : Tm} (h1 : k ≠ 1) (h2 : k ≠ 2) (h8 : k ≠ 8) : txtT (.mk k n s [x, y]) = [40] ++ txtT x ++ ([32] ++ signK k ++ [32]) ++ txtT y ++ [41] := by
  rw [txtT, if_neg h1, if_neg h2, txtTs, txtTs, txtTs, joinT, if_neg h8]; rfl
theorem name_len {l : List UInt8} (h : isNameL l = true) : l.length ≤ 12 := by
  rcases Nat.lt_or_ge 12 l.length with h1 | h1
  · have := not_name _ (word_long l h1)
    rw [this] at h; cases h
  · exact h1
/-- a right term's text is short -/
theorem txt_len (r : Nat) : ∀ t, okT r t = true → (txtT t).length + 8 ≤ 30 * 2 ^ r := by
  induction r with
  | zero =>
    intro t h
    obtain ⟨k, n, s, kids⟩ := t
    by_cases h1 : k = 1
    · subst h1
      rw [okT_num, Bool.and_eq_true, Bool.and_eq_true] at h
      rw [txtT_num]
      have hb := h.1.1
      have := Lib.itoa_length_le n (by simp [inB] at hb; omega) (by simp [inB] at hb; omega)
      omega
    by_cases h2 : k = 2
    · subst h2
      rw [okT_var, Bool.and_eq_true, Bool.and_eq_true] at h
      rw [txtT_var]
      have := name_len h.1.2
      omega
    rw [okT_zero (by simpa using h1) (by simpa using h2)] at h
    cases h
  | succ r ih =>
    intro t h
    obtain ⟨k, n, s, kids⟩ := t
    have hp : 2 ^ (r + 1) = 2 ^ r + 2 ^ r := by rw [Nat.pow_succ]; omega
    have hpos := Nat.two_pow_pos r
    by_cases h1 : k = 1
    · subst h1
      rw [okT_num, Bool.and_eq_true, Bool.and_eq_true] at h
      rw [txtT_num]
      have hb := h.1.1
      have := Lib.itoa_length_le n (by simp [inB] at hb; omega) (by simp [inB] at hb; omega)
      omega
    by_cases h2 : k = 2
    · subst h2
      rw [okT_var, Bool.and_eq_true, Bool.and_eq_true] at h
      rw [txtT_var]
      have := name_len h.1.2
      omega
    obtain ⟨r', he, ⟨rfl, x, rfl, hx⟩ | ⟨hk, x, y, rfl, hx, hy⟩⟩ := okT_kids h1 h2 h
    · have : r' = r := by omega
      subst this
      have := ih x hx
      rw [txtT_one]
      simp only [List.length_append, List.length_cons, List.length_nil]; omega
    · have : r' = r := by omega
      subst this
      have := ih x hx
      have := ih y hy
      have := signK_len k
      rw [txtT_two h1 h2 (by omega)]
      simp only [List.length_append, List.length_cons, List.length_nil]; omega
def txtR (t : Tm) : List UInt8 := if okT 6 t = true then txtT t else []
theorem txtR_yes {t : Tm} (h : okT 6 t = true) : txtR t = txtT t := by simp [txtR, h]
theorem txtR_no {t : Tm} (h : okT 6 t = false) : txtR t = [] := by simp [txtR, h]
/-- the number of a right leaf is within bounds -/
theorem okT_num_bd {r : Nat} {n : Int} {s : ByteArray} {kids : List Tm} (h : okT r (.mk 1 n s kids) = true) : 0 ≤ n ∧ n ≤ 1000000000 := by
  rw [okT_num, Bool.and_eq_true, Bool.and_eq_true] at h
  have hb := h.1.1
  simp [inB] at hb
  exact hb
end Go.Proofs.YtefcdpkficojgaaDoor
