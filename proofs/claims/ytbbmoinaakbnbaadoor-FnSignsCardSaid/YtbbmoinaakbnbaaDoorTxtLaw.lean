/- TermText in the reference and in the program, and the law over them. -/
import Derived.Test.YtbbmoinaakbnbaaDoorSay
import Derived.Test.YtbbmoinaakbnbaaDoorTxtImpl
namespace Go.Proofs.YtbbmoinaakbnbaaDoor
open Go.RowKit
set_option linter.unusedVariables false

theorem impl_textOfTerm (t : Tm) : TxC t := by
  induction hN : nodes t using Nat.strongRecOn generalizing t with
  | ind N ih =>
    intro room k n s A m c w hok hr ht tab
    obtain ⟨kids, rfl, rfl, hl, hc, _, _, _, row⟩ := ht.inv
    by_cases h1 : k = 1
    · exact impl_text_leaf room k n s A _ c kids w (.inl h1) hok tab
    by_cases h2 : k = 2
    · exact impl_text_leaf room k n s A _ c kids w (.inr h2) hok tab
    obtain ⟨r, rfl, ⟨rfl, x, rfl, hx⟩ | ⟨hk, x, y, rfl, hx, hy⟩⟩ := okT_kids h1 h2 hok
    · exact impl_text_not r (by omega) n s A c x (ih (nodes x) (by rw [← hN]; exact kid_lt (by simp)) x rfl) hx w row tab
    · exact impl_text_two r (by omega) k n hk s A c x y (ih (nodes x) (by rw [← hN]; exact kid_lt (by simp)) x rfl) (ih (nodes y) (by rw [← hN]; exact kid_lt (by simp)) y rfl) hx hy w row tab
set_option maxHeartbeats 400000 in
theorem impl_TermText (t : Tm) (k n : Int) (s : ByteArray) (A : Option Addr) (m c : Nat) (w : World) (ht : TmIs AnyB w [.int .i64 k, .int .i64 n, .string s, .slice A m c] t) (tab : TabW w) :
    Calls Tryd.prog 9 #[.agg #[.int .i64 k, .int .i64 n, .string s, .slice A m c]] w fun e w' => e = .returned (.string ⟨(txtR t).toArray⟩) ∧ Below w.heap.size w w' := by
  have HT := Lib.hid ht
  have TB := Lib.hid tab
  clear ht tab
  cases h : okT 6 t with
  | false =>
    have FR := Lib.hid (txtR_no h)
    have OK := Lib.hid h
    clear h
    go_enter Tryd.func9, Tryd.ntmps9
    go_wp2_with fail
    refine (impl_TermOk t k n s A m c _ (HT.out.belowA (by repeat' (first | exact Below.refl _ _ | exact Nat.le_refl _ | (refine Below.alloc ?_ ?_ _) | (refine Below.setCell ?_ ?_ _) | (refine Below.drew ?_) | (refine below_drewN ?_ _) | assumption | (simp; done) | (simp; omega))))).mono ?_
    rintro e w1 ⟨rfl, b1⟩
    have B1 : Hid (Below w.heap.size w w1) := Lib.hid (Below.trans (by repeat' (first | exact Below.refl _ _ | exact Nat.le_refl _ | (refine Below.alloc ?_ ?_ _) | (refine Below.setCell ?_ ?_ _) | (refine Below.drew ?_) | (refine below_drewN ?_ _) | assumption | (simp; done) | (simp; omega))) (b1.mono (by simp)))
    rw [OK.out]
    clear b1
    go_wp2_with fail
    go_ret
    exact ⟨by rw [FR.out]; rfl, B1.out⟩
  | true =>
    have FR := Lib.hid (txtR_yes h)
    have OK := Lib.hid h
    clear h
    go_enter Tryd.func9, Tryd.ntmps9
    go_wp2_with fail
    refine (impl_TermOk t k n s A m c _ (HT.out.belowA (by repeat' (first | exact Below.refl _ _ | exact Nat.le_refl _ | (refine Below.alloc ?_ ?_ _) | (refine Below.setCell ?_ ?_ _) | (refine Below.drew ?_) | (refine below_drewN ?_ _) | assumption | (simp; done) | (simp; omega))))).mono ?_
    rintro e w1 ⟨rfl, b1⟩
    have B1 : Hid (Below w.heap.size w w1) := Lib.hid (Below.trans (by repeat' (first | exact Below.refl _ _ | exact Nat.le_refl _ | (refine Below.alloc ?_ ?_ _) | (refine Below.setCell ?_ ?_ _) | (refine Below.drew ?_) | (refine below_drewN ?_ _) | assumption | (simp; done) | (simp; omega))) (b1.mono (by simp)))
    have X1 : Box4 w1 w.heap.size (vt k n s A m c) := Box4.below (Box4.lit rfl) b1
    obtain ⟨p0, p1, p2, p3⟩ := X1
    simp only [vt] at p0 p1 p2 p3
    rw [OK.out]
    clear b1
    go_wp2_with fail
    refine (impl_textOfTerm t 6 k n s A m c _ OK.out (by omega) (HT.out.belowA B1.out) (TB.out.below B1.out)).mono ?_
    rintro e w2 ⟨rfl, b2⟩
    have B2 := Lib.hid (below_then B1.out b2)
    clear b2
    generalize hX : txtT t = X at *
    go_wp2_with fail
    go_ret
    exact ⟨by rw [FR.out]; rfl, B2.out⟩
set_option maxHeartbeats 400000 in
theorem spec_TermText (t : Tm) (k n : Int) (s : ByteArray) (A : Option Addr) (m c : Nat) (w : World) (ht : TmIs AnyB w [.int .i64 k, .int .i64 n, .string s, .slice A m c] t) :
    Calls Tryd.prog 7 #[.agg #[.int .i64 k, .int .i64 n, .string s, .slice A m c]] w fun e w' => e = .returned (.string ⟨(txtR t).toArray⟩) ∧ Below w.heap.size w w' := by
  have HT := Lib.hid ht
  clear ht
  cases h : okT 6 t with
  | false =>
    have FR := Lib.hid (txtR_no h)
    have OK := Lib.hid h
    clear h
    go_enter Tryd.func7, Tryd.ntmps7
    go_wp2_with fail
    refine (spec_TermOk t k n s A m c _ (HT.out.belowA (by repeat' (first | exact Below.refl _ _ | exact Nat.le_refl _ | (refine Below.alloc ?_ ?_ _) | (refine Below.setCell ?_ ?_ _) | (refine Below.drew ?_) | (refine below_drewN ?_ _) | assumption | (simp; done) | (simp; omega))))).mono ?_
    rintro e w1 ⟨rfl, b1⟩
    have B1 : Hid (Below w.heap.size w w1) := Lib.hid (Below.trans (by repeat' (first | exact Below.refl _ _ | exact Nat.le_refl _ | (refine Below.alloc ?_ ?_ _) | (refine Below.setCell ?_ ?_ _) | (refine Below.drew ?_) | (refine below_drewN ?_ _) | assumption | (simp; done) | (simp; omega))) (b1.mono (by simp)))
    rw [OK.out]
    clear b1
    go_wp2_with fail
    go_ret
    exact ⟨by rw [FR.out]; rfl, B1.out⟩
  | true =>
    have FR := Lib.hid (txtR_yes h)
    have OK := Lib.hid h
    clear h
    go_enter Tryd.func7, Tryd.ntmps7
    go_wp2_with fail
    refine (spec_TermOk t k n s A m c _ (HT.out.belowA (by repeat' (first | exact Below.refl _ _ | exact Nat.le_refl _ | (refine Below.alloc ?_ ?_ _) | (refine Below.setCell ?_ ?_ _) | (refine Below.drew ?_) | (refine below_drewN ?_ _) | assumption | (simp; done) | (simp; omega))))).mono ?_
    rintro e w1 ⟨rfl, b1⟩
    have B1 : Hid (Below w.heap.size w w1) := Lib.hid (Below.trans (by repeat' (first | exact Below.refl _ _ | exact Nat.le_refl _ | (refine Below.alloc ?_ ?_ _) | (refine Below.setCell ?_ ?_ _) | (refine Below.drew ?_) | (refine below_drewN ?_ _) | assumption | (simp; done) | (simp; omega))) (b1.mono (by simp)))
    have X1 : Box4 w1 w.heap.size (vt k n s A m c) := Box4.below (Box4.lit rfl) b1
    obtain ⟨p0, p1, p2, p3⟩ := X1
    simp only [vt] at p0 p1 p2 p3
    have hz := cell_lt p0
    rw [OK.out]
    clear b1
    have OB : Hid (OutB w (w1.alloc (.cells #[] 5)) (.slice (some ⟨w1.heap.size, 0, none⟩) 0 0) []) := Lib.hid (OutB.empty B1.out)
    go_wp2_with fail
    refine (spec_l03Say t 6 k n s A m c w _ _ [] OK.out HT.out OB.out (by simp) (by omega)).mono ?_
    rintro e w2 ⟨v2, rfl, o2, _⟩
    have B2 := Lib.hid o2.own
    have e2 : OutB w w2 v2 (txtT t) := o2
    obtain ⟨A2, c2, rfl, _⟩ := e2.slice
    have cv := str_run (w := w2) c2 (Own.rd e2)
    clear o2 e2
    generalize hX : txtT t = X at *
    go_wp2_with fail
    go_ret
    exact ⟨by rw [FR.out]; rfl, B2.out⟩
set_option maxHeartbeats 1600000 in
theorem law_TermText (v : Value) (t : Tm) (w : World) (o : IsTerm AnyB w v t) (tab : TabW w) :
    Calls Tryd.prog 3 #[v] w fun e w' => e = .returned (.bool true) ∧ Below w.heap.size w w' := by
  obtain ⟨k, n, s, A, m, c, rfl, ht⟩ := o
  have HT := Lib.hid ht
  have TB := Lib.hid tab
  clear ht tab
  by_cases h1 : (1048576 : Int) - (totT t : Int) < 0
  · have C1 := Lib.hid (cut0_neg h1)
    go_enter Tryd.func3, Tryd.ntmps3
    go_wp2_with fail
    refine (laws_szTerm t k n s A m c _ 1048576 ?_ (by omega) (by omega)).mono ?_
    · exact HT.out.belowA (by repeat' (first | exact Below.refl _ _ | exact Nat.le_refl _ | (refine Below.alloc ?_ ?_ _) | (refine Below.setCell ?_ ?_ _) | (refine Below.drew ?_) | (refine below_drewN ?_ _) | assumption | (simp; done) | (simp; omega)))
    rintro e w1 ⟨rfl, b1⟩
    have B1 : Below w.heap.size w w1 := Below.trans (by repeat' (first | exact Below.refl _ _ | exact Nat.le_refl _ | (refine Below.alloc ?_ ?_ _) | (refine Below.setCell ?_ ?_ _) | (refine Below.drew ?_) | (refine below_drewN ?_ _) | assumption | (simp; done) | (simp; omega))) (b1.mono (by simp))
    have H1 := Lib.hid B1
    clear b1 B1
    rw [C1.out]
    go_wp2_with fail
    go_ret
    exact ⟨rfl, H1.out⟩
  have C1 := Lib.hid (cut0_pos (n := (1048576 : Int) - (totT t : Int)) (by omega))
  have htot : totT t ≤ 1048576 := by omega
  have h1' : 0 ≤ (1048576 : Int) - (totT t : Int) := by omega
  go_enter Tryd.func3, Tryd.ntmps3
  go_wp2_with fail
  refine (laws_szTerm t k n s A m c _ 1048576 ?_ (by omega) (by omega)).mono ?_
  · exact HT.out.belowA (by repeat' (first | exact Below.refl _ _ | exact Nat.le_refl _ | (refine Below.alloc ?_ ?_ _) | (refine Below.setCell ?_ ?_ _) | (refine Below.drew ?_) | (refine below_drewN ?_ _) | assumption | (simp; done) | (simp; omega)))
  rintro e w1 ⟨rfl, b1⟩
  have H1 : Hid (Below w.heap.size w w1) := Lib.hid (Below.trans (by repeat' (first | exact Below.refl _ _ | exact Nat.le_refl _ | (refine Below.alloc ?_ ?_ _) | (refine Below.setCell ?_ ?_ _) | (refine Below.drew ?_) | (refine below_drewN ?_ _) | assumption | (simp; done) | (simp; omega))) (b1.mono (by simp)))
  have BX1 : Hid (Box4 w1 w.heap.size (vt k n s A m c)) := Lib.hid (Box4.below (Box4.lit rfl) b1)
  clear b1
  obtain ⟨p0, p1, p2, p3⟩ := BX1.out
  simp only [vt] at p0 p1 p2 p3
  rw [C1.out]
  go_wp2_with fail
  refine (laws_toTerm t k n s A m c _ (HT.out.belowA H1.out) htot).mono ?_
  rintro e w2 ⟨k2, n2, s2, A2, m2, c2, rfl, t2, b2⟩
  have T2 := Lib.hid t2.any
  have H2 := Lib.hid (below_then H1.out b2)
  have BX2 := Lib.hid (BX1.out.below b2)
  clear b2 t2 p0 p1 p2 p3 BX1 H1
  go_wp2_with fail
  refine (spec_TermText t k2 n2 s2 A2 m2 c2 _ T2.out).mono ?_
  rintro e w3 ⟨rfl, b3⟩
  have H3 := Lib.hid (below_then H2.out b3)
  have BX3 := Lib.hid (BX2.out.below b3)
  clear b3 BX2 T2
  obtain ⟨p0, p1, p2, p3⟩ := BX3.out
  simp only [vt] at p0 p1 p2 p3
  obtain ⟨X, hX⟩ : ∃ X : ByteArray, ⟨(txtR t).toArray⟩ = X := ⟨_, rfl⟩
  rw [hX]
  have HX := Lib.hid hX
  clear hX
  go_wp2_with fail
  refine (laws_toTerm t k n s A m c _ (HT.out.belowA H3.out) htot).mono ?_
  rintro e w4 ⟨k4, n4, s4, A4, m4, c4, rfl, t4, b4⟩
  have T4 := Lib.hid t4.any
  have D4 := Lib.hid b4
  clear b4 t4 p0 p1 p2 p3
  go_wp2_with fail
  refine (impl_TermText t k4 n4 s4 A4 m4 c4 _ (T4.out.belowA (by repeat' (first | exact Below.refl _ _ | exact Nat.le_refl _ | (refine Below.alloc ?_ ?_ _) | (refine Below.setCell ?_ ?_ _) | (refine Below.drew ?_) | (refine below_drewN ?_ _) | assumption | (simp; done) | (simp; omega)))) (TB.out.below (below_then H3.out (D4.out.alloc D4.out.size _)))).mono ?_
  rintro e w5 ⟨rfl, b5⟩
  have B45 : Below w4.heap.size w4 w5 := Below.trans (Below.alloc (Below.refl _ _) (Nat.le_refl _) _) (b5.mono (by simp))
  have BY5 : Hid (Box4 w5 w4.heap.size (vt k4 n4 s4 A4 m4 c4)) := Lib.hid (Box4.below (Box4.lit rfl) b5)
  have T5 := Lib.hid (T4.out.belowA B45)
  have D5 := Lib.hid (below_then H3.out (below_then D4.out B45))
  have BX5 := Lib.hid (BX3.out.below (below_then D4.out B45))
  rw [HX.out]
  clear b5 B45 T4 D4 BX3 H3
  have q := str_eq X X
  rw [decide_eq_true rfl] at q
  have st := sameB_yes (rfl : t = t)
  obtain ⟨p0, p1, p2, p3⟩ := BX5.out
  obtain ⟨r0, r1, r2, r3⟩ := BY5.out
  simp only [vt] at p0 p1 p2 p3 r0 r1 r2 r3
  go_wp2_with fail
  go_region_held3 (fun w' => w'.cell? ⟨w.heap.size, 0, none⟩ = some (.int .i64 k) ∧ w'.cell? ⟨w.heap.size, 1, none⟩ = some (.int .i64 n) ∧ w'.cell? ⟨w.heap.size, 2, none⟩ = some (.string s) ∧ w'.cell? ⟨w.heap.size, 3, none⟩ = some (.slice A m c) ∧ w'.cell? ⟨w4.heap.size, 0, none⟩ = some (.int .i64 k4) ∧ w'.cell? ⟨w4.heap.size, 1, none⟩ = some (.int .i64 n4) ∧ w'.cell? ⟨w4.heap.size, 2, none⟩ = some (.string s4) ∧ w'.cell? ⟨w4.heap.size, 3, none⟩ = some (.slice A4 m4 c4))
    (first | go_keep | (go_split_ands; refine ⟨?_, ?_, ?_, ?_, ?_, ?_, ?_, ?_⟩ <;> first | exact cell_keep b10 (by assumption) | exact cell_keep b9 (by assumption)))
    (first
      | (go_at_call 8; (with_reducible refine (laws_toTerm t k n s A m c _ (by exact (HT.out.belowA D5.out).drew) htot).mono ?_); rintro e w9 ⟨k9, n9, s9, A9, m9, c9, rfl, t9, b9⟩)
      | (go_at_call 10; refine (laws_eqTerm t t k4 n4 s4 A4 m4 c4 k9 n9 s9 A9 m9 c9 _ (by exact T5.out.drew.belowA b9) (by exact t9.any)).mono ?_; rintro e w10 ⟨rfl, b10⟩))
  have H10 := Lib.hid (below_then D5.out (below_then (Below.trans (Below.refl _ _).drew b9) b10))
  clear b9 b10 t9
  go_wp2_with fail
  go_ret
  exact ⟨rfl, H10.out⟩
end Go.Proofs.YtbbmoinaakbnbaaDoor
