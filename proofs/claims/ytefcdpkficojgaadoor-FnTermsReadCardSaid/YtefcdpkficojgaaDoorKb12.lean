/- Several texts in one: Itoa, Txt, SameTerm, ZeroTm. -/
import Derived.Test.YtefcdpkficojgaaDoorKb11
import Derived.Test.YtefcdpkficojgaaDoorShelf
import Derived.Lib.LaidTab
import Derived.Lib.ItoaLen
import Derived.Test.YtefcdpkficojgaaDoorKb6
import Derived.LaidEqlPtr
namespace Go.Proofs.YtefcdpkficojgaaDoor
open Go.RowKit
set_option linter.unusedVariables false


theorem itoa_zero : Lib.itoa 0 = [48] := by
  unfold Lib.itoa
  rw [if_neg (by omega), Lib.decDigits, dif_pos (by decide)]
  rfl
--WALK--
theorem below_grow {w : World} {k : Nat} {os : Array Obj} : Below w.heap.size w (Sort.grow (w.drewN k) os) := by
  refine ⟨rfl, rfl, rfl, by simp [Sort.grow], fun j hj => ?_⟩
  simp only [Sort.grow]
  exact Array.getElem?_append_left hj
theorem impl_Decimal (n : Int) (h0 : -9223372036854775808 ≤ n) (h1 : n ≤ 9223372036854775807) (w : World) (tab : Lib.TabIs Tryd.prog w "internal/strconv.uint64pow10" .u64 Lib.pow10Tab) :
    Calls Tryd.prog 96 #[.int .i64 n] w fun e w' => e = .returned (.string ⟨(Lib.itoa n).toArray⟩) ∧ Below w.heap.size w w' := by
  have TB := Lib.hid tab
  clear tab
  go_enter Tryd.func96, Tryd.ntmps96
  go_wp2_with fail
  refine (Tryd.strconv_Itoa n h0 h1 w TB.out).mono ?_
  rintro e w1 ⟨rfl, k, os, rfl⟩
  have B1 := Lib.hid (below_grow (w := w) (k := k) (os := os))
  generalize Sort.grow (w.drewN k) os = w1 at *
  go_wp2_with fail
  go_ret
  exact ⟨rfl, B1.out⟩

def signB (k : Int) : ByteArray := if k = 3 then ⟨#[43]⟩ else if k = 4 then ⟨#[45]⟩ else if k = 5 then ⟨#[42]⟩ else if k = 6 then ⟨#[60]⟩ else if k = 7 then ⟨#[61, 61]⟩ else ⟨#[97, 110, 100]⟩
def signK (k : Int) : List UInt8 := (signB k).data.toList
theorem signK_len (k : Int) : (signK k).length ≤ 3 := by
  unfold signK signB
  repeat' split
  all_goals decide
def joinT (k : Int) (a b : List UInt8) : List UInt8 := if k = 8 then [40, 110, 111, 116, 32] ++ a ++ [41] else [40] ++ a ++ ([32] ++ signK k ++ [32]) ++ b ++ [41]
mutual
def txtT : Tm → List UInt8
  | .mk k n s kids => if k = 1 then Lib.itoa n else if k = 2 then s.data.toList else joinT k ((txtTs kids)[0]?.getD []) ((txtTs kids)[1]?.getD [])
def txtTs : List Tm → List (List UInt8)
  | [] => []
  | t :: r => txtT t :: txtTs r
end
theorem txtT_num {n : Int} {s : ByteArray} {kids : List Tm} : txtT (.mk 1 n s kids) = Lib.itoa n := by rw [txtT, if_pos rfl]
theorem txtT_var {n : Int} {s : ByteArray} {kids : List Tm} : txtT (.mk 2 n s kids) = s.data.toList := by rw [txtT, if_neg (by decide), if_pos rfl]
theorem txtT_one {n : Int} {s : ByteArray} {x : Tm} : txtT (.mk 8 n s [x]) = [40, 110, 111, 116, 32] ++ txtT x ++ [41] := by
  simp [txtT, txtTs, joinT]
theorem txtT_two {k n : Int} {s : ByteArray} {x y : Tm} (h1 : k ≠ 1) (h2 : k ≠ 2) (h8 : k ≠ 8) : txtT (.mk k n s [x, y]) = [40] ++ txtT x ++ ([32] ++ signK k ++ [32]) ++ txtT y ++ [41] := by
  rw [txtT, if_neg h1, if_neg h2, txtTs, txtTs, txtTs, joinT, if_neg h8]; rfl
theorem name_len {l : List UInt8} (h : isNameL l = true) : l.length ≤ 12 := by
  rcases Nat.lt_or_ge 12 l.length with h1 | h1
  · have := not_name _ (word_long l h1)
    rw [this] at h; cases h
  · exact h1
/-- a right term's text is short -/
theorem txt_len (r : Nat) : ∀ t, okT r t = true → (txtT t).length + 8 ≤ 30 * 2 ^ r := by
  induction r with
  | zero =>
    intro t h
    obtain ⟨k, n, s, kids⟩ := t
    by_cases h1 : k = 1
    · subst h1
      rw [okT_num, Bool.and_eq_true, Bool.and_eq_true] at h
      rw [txtT_num]
      have hb := h.1.1
      have := Lib.itoa_length_le n (by simp [inB] at hb; omega) (by simp [inB] at hb; omega)
      omega
    by_cases h2 : k = 2
    · subst h2
      rw [okT_var, Bool.and_eq_true, Bool.and_eq_true] at h
      rw [txtT_var]
      have := name_len h.1.2
      omega
    rw [okT_zero (by simpa using h1) (by simpa using h2)] at h
    cases h
  | succ r ih =>
    intro t h
    obtain ⟨k, n, s, kids⟩ := t
    have hp : 2 ^ (r + 1) = 2 ^ r + 2 ^ r := by rw [Nat.pow_succ]; omega
    have hpos := Nat.two_pow_pos r
    by_cases h1 : k = 1
    · subst h1
      rw [okT_num, Bool.and_eq_true, Bool.and_eq_true] at h
      rw [txtT_num]
      have hb := h.1.1
      have := Lib.itoa_length_le n (by simp [inB] at hb; omega) (by simp [inB] at hb; omega)
      omega
    by_cases h2 : k = 2
    · subst h2
      rw [okT_var, Bool.and_eq_true, Bool.and_eq_true] at h
      rw [txtT_var]
      have := name_len h.1.2
      omega
    obtain ⟨r', he, ⟨rfl, x, rfl, hx⟩ | ⟨hk, x, y, rfl, hx, hy⟩⟩ := okT_kids h1 h2 h
    · have : r' = r := by omega
      subst this
      have := ih x hx
      rw [txtT_one]
      simp only [List.length_append, List.length_cons, List.length_nil]; omega
    · have : r' = r := by omega
      subst this
      have := ih x hx
      have := ih y hy
      have := signK_len k
      rw [txtT_two h1 h2 (by omega)]
      simp only [List.length_append, List.length_cons, List.length_nil]; omega
def txtR (t : Tm) : List UInt8 := if okT 6 t = true then txtT t else []
theorem txtR_yes {t : Tm} (h : okT 6 t = true) : txtR t = txtT t := by simp [txtR, h]
theorem txtR_no {t : Tm} (h : okT 6 t = false) : txtR t = [] := by simp [txtR, h]
/-- the number of a right leaf is within bounds -/
theorem okT_num_bd {r : Nat} {n : Int} {s : ByteArray} {kids : List Tm} (h : okT r (.mk 1 n s kids) = true) : 0 ≤ n ∧ n ≤ 1000000000 := by
  rw [okT_num, Bool.and_eq_true, Bool.and_eq_true] at h
  have hb := h.1.1
  simp [inB] at hb
  exact hb

abbrev SaC (t : Tm) : Prop := ∀ (u : Tm) (k n : Int) (s : ByteArray) (A : Option Addr) (m c : Nat) (k' n' : Int) (s' : ByteArray) (A' : Option Addr) (m' c' : Nat) (w : World) (lo : Nat), TmIs (Fr lo w) w [.int .i64 k, .int .i64 n, .string s, .slice A m c] t → TmIs (Fr lo w) w [.int .i64 k', .int .i64 n', .string s', .slice A' m' c'] u →
  Calls Tryd.prog 170 #[.agg #[.int .i64 k, .int .i64 n, .string s, .slice A m c], .agg #[.int .i64 k', .int .i64 n', .string s', .slice A' m' c']] w fun e w' => e = .returned (.bool (sameB t u)) ∧ Below w.heap.size w w'
theorem Fr.lt {lo : Nat} {w : World} {b : Nat} (h : Fr lo w b) : b < w.heap.size := by
  obtain ⟨_, cur, e, h⟩ := h
  rcases Nat.lt_or_ge b w.heap.size with hlt | hge
  · exact hlt
  · rw [Array.getElem?_eq_none hge] at h; cases h
theorem termPtr (a : Addr) (w : World) : (binOp .eql 227 (.pointer (some a)) (.pointer (some a))).run Tryd.prog w = .ok (.bool true) w := by
  obtain ⟨i, z, hi, _⟩ := tmT.info
  exact run_eql_ptr_same w a Tryd.underlying227 hi
theorem termPtrNo {a b : Addr} {w : World} {lo : Nat} (hne : a ≠ b) (ha : Fr lo w a.block) (hb : Fr lo w b.block) : (binOp .eql 227 (.pointer (some a)) (.pointer (some b))).run Tryd.prog w = .ok (.bool false) w := by
  obtain ⟨i, z, hi, _, hs, _⟩ := tmT.info
  obtain ⟨_, ca, ta, ha⟩ := ha
  obtain ⟨_, cb, tb, hb⟩ := hb
  exact run_eql_ptr_other w Tryd.underlying227 hi (by rw [hs]; decide) hne ha hb
set_option maxHeartbeats 400000 in
theorem slices_EqualFunc (ss tt : List Tm) (ih : ∀ t ∈ ss, SaC t) (A A' : Option Addr) (c c' : Nat) (w : World) (lo : Nat) (row : TmRow (Fr lo w) w A ss) (row' : TmRow (Fr lo w) w A' tt) (hl : ss.length ≤ c) (hl' : tt.length ≤ c') (hc : c ≤ maxLen) (hc' : c' ≤ maxLen) (he : ss.length = tt.length) :
    Calls Tryd.prog 213 #[.slice A ss.length c, .slice A' tt.length c', .func (.func 170) #[] #[]] w fun e w' => e = .returned (.bool (samesB ss tt)) ∧ Below w.heap.size w w' := by
  unfold maxLen at hc hc'
  have IH := Lib.hid ih
  have RW := Lib.hid row
  have RW' := Lib.hid row'
  have g1 : ((ss.length : Int) != (tt.length : Int)) = false := by simp [he]
  have G := Lib.hid he
  clear ih row row' he
  go_enter Tryd.func213, Tryd.ntmps213
  go_wp2_with fail
  go_loopw [17] (fun i wr => ∃ j : Nat, j ≤ ss.length ∧ i = .int .i64 j ∧ Below w.heap.size w wr ∧ Hid (ss.take j = tt.take j)) (fun i _ => ss.length - (intOf i).toNat)
  case atStart => exact ⟨0, Nat.zero_le _, rfl, Below.refl _ _, Lib.hid rfl⟩
  case round =>
    obtain ⟨j, hj, rfl, hb, HT⟩ := hrel
    have HB := Lib.hid hb
    clear hb
    by_cases hlt : j < ss.length
    · have hlt' : j < tt.length := by rw [← G.out]; exact hlt
      obtain ⟨b, off, k1, n1, s1, A1, m1, c1, rfl, _, d0, d1, d2, d3, ht⟩ := rd_term (RW.out.belowF HB.out) hlt
      obtain ⟨b', off', k2, n2, s2, A2, m2, c2, rfl, _, e0, e1, e2, e3, ht'⟩ := rd_term (RW'.out.belowF HB.out) hlt'
      have T1 := Lib.hid ht
      have T2 := Lib.hid ht'
      clear ht ht'
      have lb : b < wr.heap.size := cell_lt d0
      have lb' : b' < wr.heap.size := cell_lt e0
      have h0k : (0 : Int) ≤ (j : Int) := by omega
      have h1k : (j : Int) < (ss.length : Int) := by omega
      have h2k : (j : Int) < (tt.length : Int) := by omega
      go_wp2_with fail
      refine (IH.out _ (List.getElem_mem hlt) tt[j] k1 n1 s1 A1 m1 c1 k2 n2 s2 A2 m2 c2 _ lo ?_ ?_).mono ?_
      · exact T1.out.belowF (by repeat' (first | exact Below.refl _ _ | exact Nat.le_refl _ | (refine Below.alloc ?_ ?_ _) | (refine Below.setCell ?_ ?_ _) | (refine Below.drew ?_) | (refine below_drewN ?_ _) | assumption | (simp; done) | (simp; omega)))
      · exact T2.out.belowF (by repeat' (first | exact Below.refl _ _ | exact Nat.le_refl _ | (refine Below.alloc ?_ ?_ _) | (refine Below.setCell ?_ ?_ _) | (refine Below.drew ?_) | (refine below_drewN ?_ _) | assumption | (simp; done) | (simp; omega)))
      rintro e w1 ⟨rfl, b1⟩
      have B1 : Below w.heap.size w w1 := Below.trans (Below.trans HB.out (Below.mono (by repeat' (first | exact Below.refl _ _ | exact Nat.le_refl _ | (refine Below.alloc ?_ ?_ _) | (refine Below.setCell ?_ ?_ _) | (refine Below.drew ?_) | (refine below_drewN ?_ _) | assumption | (simp; done) | (simp; omega))) HB.out.size)) (b1.mono (by have := HB.out.size; simp; omega))
      have H1 := Lib.hid B1
      clear b1 B1
      by_cases e : sameB ss[j] tt[j] = true
      · go_wp2_with fail
        go_roundw
        case rel => exact ⟨j + 1, by omega, by go_num, H1.out, Lib.hid (take_eq_succ HT.out hlt hlt' (sameB_true e))⟩
        case measure => simp [intOf]; omega
      · have e' := bool_no e
        go_wp2_with fail
        go_ret
        exact ⟨ret_bool (samesB_no (fun e => sameB_false e' (by subst e; rfl))).symm, H1.out⟩
    · go_wp2_with fail
      go_ret
      have e : ss = tt := by
        have := HT.out
        rwa [List.take_of_length_le (by omega), List.take_of_length_le (by rw [← G.out]; omega)] at this
      exact ⟨ret_bool (samesB_yes e).symm, HB.out⟩
set_option maxHeartbeats 400000 in
theorem impl_SameTerm (t : Tm) : SaC t := by
  induction hN : nodes t using Nat.strongRecOn generalizing t with
  | ind N ih =>
    intro u k n s A m c k' n' s' A' m' c' w lo ht hu
    obtain ⟨ss, rfl, rfl, hl, hc, _, _, _, row⟩ := ht.inv
    obtain ⟨tt, rfl, rfl, hl', hc', _, _, _, row'⟩ := hu.inv
    have IH : Hid (∀ x ∈ ss, SaC x) := Lib.hid fun x hx => ih (nodes x) (by rw [← hN]; exact kid_lt hx) x rfl
    have RW := Lib.hid row
    have RW' := Lib.hid row'
    unfold maxLen at hc hc'
    clear ih hN ht hu row row'
    have q := str_eq s s'
    by_cases c1 : k = k'
    · by_cases c2 : n = n'
      · by_cases c3 : s = s'
        · have q1 : (k != k') = false := by simp [c1]
          have q2 : (n != n') = false := by simp [c2]
          rw [decide_eq_true c3] at q
          have C := Lib.hid (And.intro c1 (And.intro c2 c3))
          clear c1 c2 c3
          by_cases g0 : ss.length = tt.length
          · have g1 : ((ss.length : Int) != (tt.length : Int)) = false := by simp [g0]
            by_cases g2 : ss.length = 0
            · have g3 : ((ss.length : Int) == 0) = true := by simp [g2]
              have G := Lib.hid (And.intro g0 g2)
              clear g0 g2
              go_enter Tryd.func170, Tryd.ntmps170
              go_wp2_with fail
              go_quiet (fail)
              go_wp2_with fail
              go_ret
              obtain ⟨z1, z2, z3⟩ := C.out
              have e1 : ss = [] := List.eq_nil_of_length_eq_zero G.out.2
              have e2 : tt = [] := List.eq_nil_of_length_eq_zero (by rw [← G.out.1]; exact G.out.2)
              exact ⟨ret_bool (sameB_yes (by rw [z1, z2, z3, e1, e2])).symm, (by repeat' (first | exact Below.refl _ _ | exact Nat.le_refl _ | (refine Below.alloc ?_ ?_ _) | (refine Below.setCell ?_ ?_ _) | (refine Below.drew ?_) | (refine below_drewN ?_ _) | assumption | (simp; done) | (simp; omega)))⟩
            · have g3 : ((ss.length : Int) == 0) = false := beq_eq_false_iff_ne.2 (by omega)
              have hp : 0 < ss.length := by omega
              have hp' : 0 < tt.length := by omega
              have hpi : (0 : Int) < (ss.length : Int) := by omega
              have hpi' : (0 : Int) < (tt.length : Int) := by omega
              obtain ⟨b, off, _, _, _, _, _, _, rfl, hFb, _⟩ := rd_term RW.out hp
              obtain ⟨b', off', _, _, _, _, _, _, rfl, hFb', _⟩ := rd_term RW'.out hp'
              have G := Lib.hid g0
              clear g0 g2
              by_cases e : (⟨b, off, none⟩ : Addr) = ⟨b', off', none⟩
              · have e' := e
                injection e' with e1 e2
                subst e1 e2
                have hptr := termPtr ⟨b, off, none⟩
                have KE := Lib.hid (RW.out.det RW'.out G.out)
                clear e hFb hFb'
                go_enter Tryd.func170, Tryd.ntmps170
                go_wp2_with fail
                go_quiet (fail)
                go_wp2_with fail
                go_ret
                obtain ⟨z1, z2, z3⟩ := C.out
                exact ⟨ret_bool (sameB_yes (by rw [z1, z2, z3, KE.out])).symm, (by repeat' (first | exact Below.refl _ _ | exact Nat.le_refl _ | (refine Below.alloc ?_ ?_ _) | (refine Below.setCell ?_ ?_ _) | (refine Below.drew ?_) | (refine below_drewN ?_ _) | assumption | (simp; done) | (simp; omega)))⟩
              · have F1 := Lib.hid hFb
                have F2 := Lib.hid hFb'
                have NE := Lib.hid e
                clear e hFb hFb'
                have hptr : ∀ (o1 o2 : Obj) (j : Nat), (binOp .eql 227 (.pointer (some ⟨b, off, none⟩)) (.pointer (some ⟨b', off', none⟩))).run Tryd.prog (((w.alloc o1).alloc o2).drewN j) = .ok (.bool false) (((w.alloc o1).alloc o2).drewN j) := fun o1 o2 j =>
                  termPtrNo (lo := lo) NE.out (Fr.below (below_drewN (Below.alloc (Below.alloc (Below.refl _ _) (Nat.le_refl _) o1) (by simp) o2) j) _ F1.out.lt F1.out) (Fr.below (below_drewN (Below.alloc (Below.alloc (Below.refl _ _) (Nat.le_refl _) o1) (by simp) o2) j) _ F2.out.lt F2.out)
                go_enter Tryd.func170, Tryd.ntmps170
                go_wp2_with fail
                go_quiet (fail)
                go_wp2_with fail
                refine (slices_EqualFunc ss tt IH.out _ _ c c' _ lo ?_ ?_ hl hl' (by unfold maxLen; omega) (by unfold maxLen; omega) G.out).mono ?_
                · exact RW.out.belowF (by repeat' (first | exact Below.refl _ _ | exact Nat.le_refl _ | (refine Below.alloc ?_ ?_ _) | (refine Below.setCell ?_ ?_ _) | (refine Below.drew ?_) | (refine below_drewN ?_ _) | assumption | (simp; done) | (simp; omega)))
                · exact RW'.out.belowF (by repeat' (first | exact Below.refl _ _ | exact Nat.le_refl _ | (refine Below.alloc ?_ ?_ _) | (refine Below.setCell ?_ ?_ _) | (refine Below.drew ?_) | (refine below_drewN ?_ _) | assumption | (simp; done) | (simp; omega)))
                rintro e w1 ⟨rfl, b1⟩
                have B1 : Below w.heap.size w w1 := Below.trans (by repeat' (first | exact Below.refl _ _ | exact Nat.le_refl _ | (refine Below.alloc ?_ ?_ _) | (refine Below.setCell ?_ ?_ _) | (refine Below.drew ?_) | (refine below_drewN ?_ _) | assumption | (simp; done) | (simp; omega))) (b1.mono (by simp; omega))
                have HB := Lib.hid B1
                clear b1 B1
                go_wp2_with fail
                go_ret
                refine ⟨ret_bool ?_, HB.out⟩
                obtain ⟨z1, z2, z3⟩ := C.out
                by_cases e : ss = tt
                · rw [samesB_yes e, sameB_yes (by rw [z1, z2, z3, e])]
                · rw [samesB_no e, sameB_no (fun h => e (by injection h))]
          · have g1 : ((ss.length : Int) != (tt.length : Int)) = true := by simp; omega
            have G := Lib.hid g0
            clear g0
            go_enter Tryd.func170, Tryd.ntmps170
            go_wp2_with fail
            go_ret
            exact ⟨ret_bool (sameB_no (fun e => G.out (by injection e with _ _ _ e; rw [e]))).symm, (by repeat' (first | exact Below.refl _ _ | exact Nat.le_refl _ | (refine Below.alloc ?_ ?_ _) | (refine Below.setCell ?_ ?_ _) | (refine Below.drew ?_) | (refine below_drewN ?_ _) | assumption | (simp; done) | (simp; omega)))⟩
        · have q1 : (k != k') = false := by simp [c1]
          have q2 : (n != n') = false := by simp [c2]
          rw [decide_no c3] at q
          have C := Lib.hid c3
          clear c1 c2 c3
          go_enter Tryd.func170, Tryd.ntmps170
          go_wp2_with fail
          go_ret
          exact ⟨ret_bool (sameB_no (fun e => C.out (by injection e))).symm, (by repeat' (first | exact Below.refl _ _ | exact Nat.le_refl _ | (refine Below.alloc ?_ ?_ _) | (refine Below.setCell ?_ ?_ _) | (refine Below.drew ?_) | (refine below_drewN ?_ _) | assumption | (simp; done) | (simp; omega)))⟩
      · have q1 : (k != k') = false := by simp [c1]
        have q2 : (n != n') = true := by simpa using c2
        have C := Lib.hid c2
        clear c1 c2
        go_enter Tryd.func170, Tryd.ntmps170
        go_wp2_with fail
        go_ret
        exact ⟨ret_bool (sameB_no (fun e => C.out (by injection e))).symm, (by repeat' (first | exact Below.refl _ _ | exact Nat.le_refl _ | (refine Below.alloc ?_ ?_ _) | (refine Below.setCell ?_ ?_ _) | (refine Below.drew ?_) | (refine below_drewN ?_ _) | assumption | (simp; done) | (simp; omega)))⟩
    · have q1 : (k != k') = true := by simpa using c1
      have C := Lib.hid c1
      clear c1
      go_enter Tryd.func170, Tryd.ntmps170
      go_wp2_with fail
      go_ret
      exact ⟨ret_bool (sameB_no (fun e => C.out (by injection e))).symm, (by repeat' (first | exact Below.refl _ _ | exact Nat.le_refl _ | (refine Below.alloc ?_ ?_ _) | (refine Below.setCell ?_ ?_ _) | (refine Below.drew ?_) | (refine below_drewN ?_ _) | assumption | (simp; done) | (simp; omega)))⟩

def zeroTm : Tm := .mk 0 0 ByteArray.empty []
theorem empty_of {s : ByteArray} (h : s.toList.isEmpty = true) : s = ByteArray.empty := by
  rw [Lib.toList_data] at h
  apply str_ext
  rw [List.isEmpty_iff.1 h]; rfl
theorem zero_iff (k n : Int) (s : ByteArray) (kids : List Tm) : sameB (.mk k n s kids) zeroTm = ((k == 0) && (n == 0) && s.toList.isEmpty && ((kids.length : Int) == 0)) := by
  cases h : ((k == 0) && (n == 0) && s.toList.isEmpty && ((kids.length : Int) == 0)) with
  | true =>
    simp only [Bool.and_eq_true, beq_iff_eq] at h
    obtain ⟨⟨⟨h1, h2⟩, h3⟩, h4⟩ := h
    have e4 : kids = [] := List.eq_nil_of_length_eq_zero (by omega)
    exact sameB_yes (by rw [h1, h2, empty_of h3, e4]; rfl)
  | false =>
    refine sameB_no fun e => ?_
    unfold zeroTm at e
    injection e with e1 e2 e3 e4
    subst e1 e2 e3 e4
    have h3 : (ByteArray.empty).toList.isEmpty = true := by rw [Lib.toList_data]; rfl
    rw [h3] at h
    simp at h
set_option maxHeartbeats 800000 in
theorem impl_isZeroTerm (t : Tm) (k n : Int) (s : ByteArray) (A : Option Addr) (m c : Nat) (w : World) (ht : TmIs AnyB w [.int .i64 k, .int .i64 n, .string s, .slice A m c] t) :
    Calls Tryd.prog 211 #[.agg #[.int .i64 k, .int .i64 n, .string s, .slice A m c]] w fun e w' => e = .returned (.bool (sameB t zeroTm)) ∧ Below w.heap.size w w' := by
  obtain ⟨kids, rfl, rfl, hl, hc, _⟩ := ht.inv
  unfold maxLen at hc
  clear ht
  rw [zero_iff]
  cases h1 : (k == 0) <;> cases h2 : (n == 0) <;> cases h3 : s.toList.isEmpty <;> cases h4 : ((kids.length : Int) == 0)
  all_goals
    go_enter Tryd.func211, Tryd.ntmps211
    go_wp2_with fail
    go_ret
    exact ⟨rfl, (by repeat' (first | exact Below.refl _ _ | exact Nat.le_refl _ | (refine Below.alloc ?_ ?_ _) | (refine Below.setCell ?_ ?_ _) | (refine Below.drew ?_) | (refine below_drewN ?_ _) | assumption | (simp; done) | (simp; omega)))⟩
end Go.Proofs.YtefcdpkficojgaaDoor
