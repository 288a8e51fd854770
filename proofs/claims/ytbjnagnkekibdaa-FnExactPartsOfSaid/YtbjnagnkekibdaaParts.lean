/- Contracts of PartsOf in the program and in the reference: both return the parts of a line between blanks; and the law over them. -/
import Derived.Test.YtbjnagnkekibdaaMark
import Derived.PlainAid
namespace Go.Proofs.Ytbjnagnkekibdaa
open Go.RowKit

def bt8 (s : ByteArray) (k : Nat) : Int := ((s.data.toList[k]?.getD 0).toNat : Int)
theorem bt8_at (s : ByteArray) (k : Nat) (h : k < s.size) : bt8 s k = ((s[k]).toNat : Int) := by
  unfold bt8
  rw [List.getElem?_eq_getElem (by simpa using h)]
  rfl
/-- the parts that end before byte k, and where the one begins in which k stands -/
def scanTo (s : ByteArray) : Nat → List ByteArray × Nat
  | 0 => ([], 0)
  | k + 1 => if bt8 s k = 32 then (if (scanTo s k).2 < k then (scanTo s k).1 ++ [s.extract (scanTo s k).2 k] else (scanTo s k).1, k + 1) else scanTo s k
theorem scan_blank (s : ByteArray) (k : Nat) (h : bt8 s k = 32) : scanTo s (k + 1) = (if (scanTo s k).2 < k then (scanTo s k).1 ++ [s.extract (scanTo s k).2 k] else (scanTo s k).1, k + 1) := by
  rw [scanTo, if_pos h]
theorem scan_other (s : ByteArray) (k : Nat) (h : ¬ bt8 s k = 32) : scanTo s (k + 1) = scanTo s k := by
  rw [scanTo, if_neg h]
theorem scan_le (s : ByteArray) (k : Nat) : (scanTo s k).2 ≤ k ∧ (scanTo s k).1.length ≤ k := by
  induction k with
  | zero => simp [scanTo]
  | succ k ih =>
    by_cases h : bt8 s k = 32
    · rw [scan_blank s k h]
      refine ⟨Nat.le_refl _, ?_⟩
      split
      · simp; omega
      · simp; omega
    · rw [scan_other s k h]; omega
def startOf (b k : Nat) : Int := if b < k then (b : Int) else -1
theorem startOf_yes {b k : Nat} (h : b < k) : startOf b k = (b : Int) := if_pos h
theorem startOf_no {b k : Nat} (h : ¬ b < k) : startOf b k = -1 := if_neg h
def partsS (s : ByteArray) : List ByteArray := if (scanTo s s.size).2 < s.size then (scanTo s s.size).1 ++ [s.extract (scanTo s s.size).2 s.size] else (scanTo s s.size).1
def plainTo (s : ByteArray) (k : Nat) : Prop := ∀ j, j < k → 32 ≤ bt8 s j ∧ bt8 s j ≤ 126
open Classical in
noncomputable def partsR (s : ByteArray) : List ByteArray × Bool := if 600 < s.size ∨ ¬ plainTo s s.size ∨ 12 < (partsS s).length then ([], false) else (partsS s, true)
theorem partsR_long {s : ByteArray} (h : 600 < s.size) : partsR s = ([], false) := by unfold partsR; rw [if_pos (.inl h)]
theorem partsR_odd {s : ByteArray} (k : Nat) (hk : k < s.size) (h : bt8 s k < 32 ∨ 126 < bt8 s k) : partsR s = ([], false) := by
  unfold partsR; rw [if_pos (.inr (.inl fun hp => by have := hp k hk; omega))]
theorem partsR_many {s : ByteArray} (h : 12 < (partsS s).length) : partsR s = ([], false) := by unfold partsR; rw [if_pos (.inr (.inr h))]
theorem partsR_yes {s : ByteArray} (h1 : s.size ≤ 600) (h2 : plainTo s s.size) (h3 : (partsS s).length ≤ 12) : partsR s = (partsS s, true) := by
  unfold partsR; rw [if_neg (by rintro (h | h | h); omega; exact h h2; omega)]
theorem plain_more {s : ByteArray} {k : Nat} (h : plainTo s k) (h1 : 32 ≤ bt8 s k) (h2 : bt8 s k ≤ 126) : plainTo s (k + 1) := by
  intro j hj
  by_cases e : j = k
  · subst e; exact ⟨h1, h2⟩
  · exact h j (by omega)
theorem map_snoc_str (l : List ByteArray) (s : ByteArray) : (l ++ [s]).map Value.string = l.map Value.string ++ [.string s] := by simp
theorem ownStrs_mk {w0 w : World} {v : Value} {n : Nat} {ss : List ByteArray} (h : Own w0 w 9 1 v n (ss.map Value.string)) : OwnStrs w0 w v ss := by
  have e : n = ss.length := by have := h.1.1; simp at this; omega
  unfold OwnStrs; rw [← e]; exact h
theorem ownStrs_snoc {w0 w : World} {v : Value} {n : Nat} {ss : List ByteArray} {s : ByteArray} (h : Own w0 w 9 1 v (n + 1) (ss.map Value.string ++ #[Value.string s].toList)) : OwnStrs w0 w v (ss ++ [s]) :=
  ownStrs_mk (n := n + 1) (by rw [map_snoc_str]; exact h)
def RetS (w : World) (r : List ByteArray × Bool) (e : Ending) (w' : World) : Prop := ∃ v, e = .returned (.tuple #[v, .bool r.2]) ∧ OwnStrs w w' v r.1
theorem RetS.mk {w w' : World} {r : List ByteArray × Bool} {l : List ByteArray} {b : Bool} (v : Value) (h : r = (l, b)) (own : OwnStrs w w' v l) : RetS w r (.returned (.tuple #[v, .bool b])) w' := by
  subst h; exact ⟨v, rfl, own⟩
theorem OwnStrs.nil {w0 w : World} (h : Below w0.heap.size w0 w) : OwnStrs w0 w (.slice none 0 0) [] := Own.startB h _ _
theorem OwnStrs.lit {w0 w : World} (h : Below w0.heap.size w0 w) : OwnStrs w0 (w.alloc (.cells #[] 9)) (.slice (some ⟨w.heap.size, 0, none⟩) 0 0) [] := Own.lit h _ 1 0 #[] (by simp [maxLen]) rfl
set_option maxHeartbeats 1000000 in
set_option maxRecDepth 100000 in
theorem impl_PartsOf (s : ByteArray) (w : World) : Calls Try.prog 48 #[.string s] w (RetS w (partsR s)) := by
  by_cases g1 : 600 < s.size
  · have F := Lib.hid (partsR_long g1)
    go_enter Try.func48, Try.ntmps48
    go_wp2_with fail
    go_ret2
    exact RetS.mk _ F.out (OwnStrs.nil (Below.refl _ _))
  · go_enter Try.func48, Try.ntmps48
    go_wp2_with fail
    go_loopw [4, 5, 6] (fun v b i wr => ∃ k : Nat, k ≤ s.size ∧ i = .int .i64 k ∧ b = .int .i64 (startOf (scanTo s k).2 k) ∧ OwnStrs w wr v (scanTo s k).1 ∧ Hid (plainTo s k)) (fun _ _ i _ => s.size - (intOf i).toNat)
    case atStart => exact ⟨0, Nat.zero_le _, rfl, rfl, OwnStrs.nil (Below.refl _ _), Lib.hid (fun j hj => by omega)⟩
    case round =>
      obtain ⟨k, hk, rfl, rfl, own, HP⟩ := hrel
      have OW := Lib.hid own
      clear own
      have hle := scan_le s k
      by_cases hlt : k < s.size
      · have hb := bt8_at s k hlt
        by_cases c1 : bt8 s k < 32
        · have F := Lib.hid (partsR_odd k hlt (.inl c1))
          rw [hb] at c1
          clear hb
          go_wp2_with fail
          go_ret2
          exact RetS.mk _ F.out (OwnStrs.nil OW.out.2)
        by_cases c2 : 126 < bt8 s k
        · have F := Lib.hid (partsR_odd k hlt (.inr c2))
          rw [hb] at c1 c2
          clear hb
          go_wp2_with fail
          go_ret2
          exact RetS.mk _ F.out (OwnStrs.nil OW.out.2)
        have HP2 := Lib.hid (plain_more HP.out (by omega) (by omega))
        by_cases c3 : bt8 s k = 32
        · have HS := Lib.hid (scan_blank s k c3)
          rw [hb] at c1 c2 c3
          have q1 : (((s[k]).toNat : Int) != 32) = false := by simp [c3]
          have q2 : (((s[k]).toNat : Int) == 32) = true := by simp [c3]
          clear hb c3
          generalize hsc : scanTo s k = sc at *
          obtain ⟨out, b⟩ := sc
          have HC := Lib.hid hsc
          clear hsc
          simp only at hle HS
          by_cases c4 : b < k
          · rw [if_pos c4] at HS
            rw [startOf_yes c4]
            have OW2 : Hid (Own w wr 9 1 _ out.length (out.map Value.string)) := OW
            go_wp2_with (at_builtin; refine wpList_app_new rfl _ _ _ rfl strT OW2.out _ 1 rfl rfl rfl (by simp [Value.oneCell']) (by simp only [maxLen]; omega) (by omega) ?_; intro v3 w3 own3)
            go_roundw
            case rel => exact ⟨k + 1, by omega, by go_num, by rw [HS.out, startOf_no (Nat.lt_irrefl _)], by rw [HS.out]; exact ownStrs_snoc own3, HP2⟩
            case measure => simp [intOf]; omega
          · rw [if_neg c4] at HS
            rw [startOf_no c4]
            go_wp2_with fail
            go_roundw
            case rel => exact ⟨k + 1, by omega, by go_num, by rw [HS.out, startOf_no (Nat.lt_irrefl _)], by rw [HS.out]; exact OW.out, HP2⟩
            case measure => simp [intOf]; omega
        · have HS := Lib.hid (scan_other s k c3)
          rw [hb] at c1 c2 c3
          have q1 : (((s[k]).toNat : Int) != 32) = true := by simpa using c3
          have q2 : (((s[k]).toNat : Int) == 32) = false := by simpa using c3
          clear hb c3
          generalize hsc : scanTo s k = sc at *
          obtain ⟨out, b⟩ := sc
          have HC := Lib.hid hsc
          clear hsc
          simp only at hle HS
          by_cases c4 : b < k
          · rw [startOf_yes c4]
            go_wp2_with fail
            go_roundw
            case rel => exact ⟨k + 1, by omega, by go_num, by rw [HS.out, startOf_yes (by simp only; omega)], by rw [HS.out]; exact OW.out, HP2⟩
            case measure => simp [intOf]; omega
          · rw [startOf_no c4]
            go_wp2_with fail
            go_roundw
            case rel => exact ⟨k + 1, by omega, by go_num, by rw [HS.out, startOf_yes (by simp only; omega)]; go_num, by rw [HS.out]; exact OW.out, HP2⟩
            case measure => simp [intOf]; omega
      · have hke : k = s.size := by omega
        subst hke
        have HY := Lib.hid (partsR_yes (by omega) HP.out)
        have HM := Lib.hid (partsR_many (s := s))
        generalize hsc : scanTo s s.size = sc at *
        obtain ⟨out, b⟩ := sc
        simp only at hle OW
        by_cases c4 : b < s.size
        · have hps : partsS s = out ++ [s.extract b s.size] := by unfold partsS; rw [hsc]; exact if_pos c4
          have HC := Lib.hid hsc
          rw [hps] at HY HM
          clear hsc hps
          rw [startOf_yes c4]
          have OW2 : Hid (Own w wr 9 1 _ out.length (out.map Value.string)) := OW
          by_cases c5 : 12 < out.length + 1
          · go_wp2_with (at_builtin; refine wpList_app_new rfl _ _ _ rfl strT OW2.out _ 1 rfl rfl rfl (by simp [Value.oneCell']) (by simp only [maxLen]; omega) (by omega) ?_; intro v3 w3 own3; have O3 := Lib.hid own3; clear own3; obtain ⟨A3, c3, rfl, _⟩ := O3.out.slice)
            go_ret2
            exact RetS.mk _ (HM.out (by simp; omega)) (OwnStrs.nil O3.out.2)
          · go_wp2_with (at_builtin; refine wpList_app_new rfl _ _ _ rfl strT OW2.out _ 1 rfl rfl rfl (by simp [Value.oneCell']) (by simp only [maxLen]; omega) (by omega) ?_; intro v3 w3 own3; have O3 := Lib.hid own3; clear own3; obtain ⟨A3, c3, rfl, _⟩ := O3.out.slice)
            go_ret2
            exact RetS.mk _ (HY.out (by simp; omega)) (ownStrs_snoc O3.out)
        · have hps : partsS s = out := by unfold partsS; rw [hsc]; exact if_neg c4
          have HC := Lib.hid hsc
          rw [hps] at HY HM
          clear hsc hps
          rw [startOf_no c4]
          obtain ⟨A3, c3, rfl, _, _⟩ := OW.out.is
          by_cases c5 : 12 < out.length
          · go_wp2_with fail
            go_ret2
            exact RetS.mk _ (HM.out (by omega)) (OwnStrs.nil OW.out.2)
          · go_wp2_with fail
            go_ret2
            exact RetS.mk _ (HY.out (by omega)) OW.out
set_option maxHeartbeats 1000000 in
set_option maxRecDepth 100000 in
theorem spec_PartsOf (s : ByteArray) (w : World) : Calls Try.prog 47 #[.string s] w (RetS w (partsR s)) := by
  by_cases g1 : 600 < s.size
  · have F := Lib.hid (partsR_long g1)
    go_enter Try.func47, Try.ntmps47
    go_wp2_with fail
    go_ret2
    exact RetS.mk _ F.out (OwnStrs.lit (Below.refl _ _))
  · go_enter Try.func47, Try.ntmps47
    go_wp2_with fail
    go_loopw [4, 5, 6] (fun v b i wr => ∃ (k : Nat) (l : List ByteArray), k ≤ s.size + 1 ∧ i = .int .i64 k ∧ OwnStrs w wr v l ∧ Hid (plainTo s (min k s.size)) ∧ Hid (if k ≤ s.size then b = .int .i64 ((scanTo s k).2 : Int) ∧ l = (scanTo s k).1 else b = .int .i64 ((s.size + 1 : Nat) : Int) ∧ l = partsS s)) (fun _ _ i _ => s.size + 1 - (intOf i).toNat)
    case atStart => exact ⟨0, [], by omega, rfl, OwnStrs.lit (Below.refl _ _), Lib.hid (fun j hj => by omega), Lib.hid (by simp [scanTo])⟩
    case round =>
      obtain ⟨k, l, hk, rfl, own, HP, HR⟩ := hrel
      have OW := Lib.hid own
      clear own
      have hle := scan_le s k
      by_cases hlt : k < s.size
      · have h := HR.out
        rw [if_pos (by omega)] at h
        obtain ⟨rfl, rfl⟩ := h
        clear HR
        have hP := HP.out
        rw [show min k s.size = k from by omega] at hP
        have hb := bt8_at s k hlt
        by_cases c1 : bt8 s k < 32
        · have F := Lib.hid (partsR_odd k hlt (.inl c1))
          rw [hb] at c1
          clear hb hP
          go_wp2_with fail
          go_ret2
          exact RetS.mk _ F.out (OwnStrs.lit OW.out.2)
        by_cases c2 : 126 < bt8 s k
        · have F := Lib.hid (partsR_odd k hlt (.inr c2))
          rw [hb] at c1 c2
          clear hb hP
          go_wp2_with fail
          go_ret2
          exact RetS.mk _ F.out (OwnStrs.lit OW.out.2)
        have hp2 := plain_more hP (by omega) (by omega)
        rw [show k + 1 = min (k + 1) s.size from by omega] at hp2
        have HP2 := Lib.hid hp2
        clear hp2 hP
        by_cases c3 : bt8 s k = 32
        · have HS := Lib.hid (scan_blank s k c3)
          rw [hb] at c1 c2 c3
          have q1 : (((s[k]).toNat : Int) != 32) = false := by simp [c3]
          clear hb c3
          generalize hsc : scanTo s k = sc at *
          obtain ⟨out, b⟩ := sc
          have HC := Lib.hid hsc
          clear hsc
          simp only at hle HS OW
          by_cases c4 : b < k
          · rw [if_pos c4] at HS
            have OW2 : Hid (Own w wr 9 1 _ out.length (out.map Value.string)) := OW
            go_wp2_with (at_builtin; refine wpList_app_new rfl _ _ _ rfl strT OW2.out _ 1 rfl rfl rfl (by simp [Value.oneCell']) (by simp only [maxLen]; omega) (by omega) ?_; intro v3 w3 own3)
            go_roundw
            case rel => exact ⟨k + 1, _, by omega, by go_num, ownStrs_snoc own3, HP2, Lib.hid (by rw [if_pos (by omega), HS.out]; exact ⟨by go_num, rfl⟩)⟩
            case measure => simp [intOf]; omega
          · rw [if_neg c4] at HS
            go_wp2_with fail
            go_roundw
            case rel => exact ⟨k + 1, _, by omega, by go_num, OW.out, HP2, Lib.hid (by rw [if_pos (by omega), HS.out]; exact ⟨by go_num, rfl⟩)⟩
            case measure => simp [intOf]; omega
        · have HS := Lib.hid (scan_other s k c3)
          rw [hb] at c1 c2 c3
          have q1 : (((s[k]).toNat : Int) != 32) = true := by simpa using c3
          clear hb c3
          go_wp2_with fail
          go_roundw
          case rel => exact ⟨k + 1, _, by omega, by go_num, OW.out, HP2, Lib.hid (by rw [if_pos (by omega), HS.out]; exact ⟨rfl, rfl⟩)⟩
          case measure => simp [intOf]; omega
      by_cases hkn : k = s.size
      · subst hkn
        have h := HR.out
        rw [if_pos (Nat.le_refl _)] at h
        obtain ⟨rfl, rfl⟩ := h
        clear HR
        have d0 : decide ((s.size : Int) < (s.size : Int)) = false := decide_no (by omega)
        have HP2 : Hid (plainTo s (min (s.size + 1) s.size)) := by have := HP.out; rw [show min s.size s.size = min (s.size + 1) s.size from by omega] at this; exact Lib.hid this
        generalize hsc : scanTo s s.size = sc at *
        obtain ⟨out, b⟩ := sc
        simp only at hle OW
        by_cases c4 : b < s.size
        · have hps : partsS s = out ++ [s.extract b s.size] := by unfold partsS; rw [hsc]; exact if_pos c4
          have HS := Lib.hid hps
          have HC := Lib.hid hsc
          clear hsc hps
          have OW2 : Hid (Own w wr 9 1 _ out.length (out.map Value.string)) := OW
          go_wp2_with (at_builtin; refine wpList_app_new rfl _ _ _ rfl strT OW2.out _ 1 rfl rfl rfl (by simp [Value.oneCell']) (by simp only [maxLen]; omega) (by omega) ?_; intro v3 w3 own3)
          go_roundw
          case rel => exact ⟨s.size + 1, _, by omega, by go_num, ownStrs_snoc own3, HP2, Lib.hid (by rw [if_neg (by omega), HS.out]; exact ⟨by go_num, rfl⟩)⟩
          case measure => simp [intOf]
        · have hps : partsS s = out := by unfold partsS; rw [hsc]; exact if_neg c4
          have HS := Lib.hid hps
          have HC := Lib.hid hsc
          clear hsc hps
          go_wp2_with fail
          go_roundw
          case rel => exact ⟨s.size + 1, _, by omega, by go_num, OW.out, HP2, Lib.hid (by rw [if_neg (by omega), HS.out]; exact ⟨by go_num, rfl⟩)⟩
          case measure => simp [intOf]
      · have h := HR.out
        rw [if_neg (by omega)] at h
        obtain ⟨rfl, rfl⟩ := h
        clear HR hle
        have hP := HP.out
        rw [show min k s.size = s.size from by omega] at hP
        have HY := Lib.hid (partsR_yes (by omega) hP)
        have HM := Lib.hid (partsR_many (s := s))
        obtain ⟨A3, c3, rfl, _, _⟩ := OW.out.is
        have hk2 : s.size < k := by omega
        clear hP hkn
        by_cases c5 : 12 < (partsS s).length
        · go_wp2_with fail
          go_ret2
          exact RetS.mk _ (HM.out (by omega)) (OwnStrs.lit OW.out.2)
        · go_wp2_with fail
          go_ret2
          exact RetS.mk _ (HY.out (by omega)) OW.out
theorem partsR_len (s : ByteArray) : (partsR s).1.length ≤ 12 := by
  unfold partsR
  split
  · simp
  · rename_i h; simp only; omega
set_option maxHeartbeats 1000000 in
theorem law_PartsOf (s : ByteArray) (w : World) (_hs : s.size ≤ maxLen) :
    Calls Try.prog 13 #[.string s] w fun e w' => e = .returned (.bool true) ∧ Below w.heap.size w w' := by
  by_cases h1 : 1048576 < s.size
  · go_enter Try.func13, Try.ntmps13
    go_wp2_with fail
    go_ret
    exact ⟨rfl, Below.refl _ _⟩
  have hlen := partsR_len s
  go_enter Try.func13, Try.ntmps13
  go_wp2_with fail
  refine (spec_PartsOf s _).mono ?_
  rintro e w1 ⟨v1, rfl, own1⟩
  have O1 := Lib.hid own1
  clear own1
  go_wp2_with fail
  refine (impl_PartsOf s _).mono ?_
  rintro e w2 ⟨v2, rfl, own2⟩
  have O2 := Lib.hid own2
  clear own2
  generalize hr : partsR s = r at *
  obtain ⟨l, b⟩ := r
  have HR := Lib.hid hr
  clear hr
  simp only at hlen O1 O2
  have hbb : (b != b) = false := by simp
  go_wp2_with fail
  refine (laws_eqStringS v2 v1 l l _ O2.out.isStrs (O1.out.isStrs.below O2.out.2)).mono ?_
  rintro e w3 ⟨rfl, q3⟩
  have Q3 := Lib.hid q3
  clear q3
  have hd : decide (l = l) = true := by simp
  go_wp2_with fail
  refine (laws_markStringS v2 l 1 w1 _ (O2.out.below Q3.out.below) (by omega) (by omega) (by omega)).mono ?_
  rintro e w4 ⟨rfl, own4⟩
  have O4 := Lib.hid own4
  clear own4
  go_wp2_with fail
  refine (laws_heldStringS v2 l.length 1 _ O4.out.isStrs (by omega) (by omega) (by omega)).mono ?_
  rintro e w5 ⟨rfl, b5⟩
  have B5 := Lib.hid b5
  clear b5
  have hm : (((1 + l.length : Nat) : Int) != ((1 + l.length : Nat) : Int)) = false := by simp
  go_wp2_with fail
  refine (impl_PartsOf s _).mono ?_
  rintro e w6 ⟨v6, rfl, own6⟩
  rw [HR.out] at own6
  rw [HR.out]
  have O6 := Lib.hid own6
  clear own6
  simp only at O6
  go_wp2_with fail
  refine (laws_eqStringS v6 v1 l l _ O6.out.isStrs (((O1.out.isStrs.below O4.out.2).below B5.out).below O6.out.2)).mono ?_
  rintro e w7 ⟨rfl, q7⟩
  have Q7 := Lib.hid q7
  clear q7
  go_wp2_with fail
  refine (laws_heldStringS v2 l.length 1 _ (((O4.out.isStrs.below B5.out).below O6.out.2).below Q7.out.below) (by omega) (by omega) (by omega)).mono ?_
  rintro e w8 ⟨rfl, b8⟩
  go_wp2_with fail
  go_ret
  exact ⟨rfl, below_then (below_then (below_then (below_then (below_then O1.out.2 O4.out.2) B5.out) O6.out.2) Q7.out.below) b8⟩
end Go.Proofs.Ytbjnagnkekibdaa
