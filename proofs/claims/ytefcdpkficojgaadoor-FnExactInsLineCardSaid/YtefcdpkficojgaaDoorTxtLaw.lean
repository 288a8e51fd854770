/- TermText in the reference and in the program, and the law over them. -/
import Derived.Test.YtefcdpkficojgaaDoorSay
import Derived.Test.YtefcdpkficojgaaDoorTxtImpl
namespace Go.Proofs.YtefcdpkficojgaaDoor
open Go.RowKit
set_option linter.unusedVariables false

theorem impl_textOfTerm (t : Tm) : TxC t := by
  induction hN : nodes t using Nat.strongRecOn generalizing t with
  | ind N ih =>
    intro room k n s A m c w hok hr ht tab
    obtain ⟨kids, rfl, rfl, hl, hc, _, _, _, row⟩ := ht.inv
    by_cases h1 : k = 1
    · exact impl_text_leaf room k n s A _ c kids w (.inl h1) hok tab
    by_cases h2 : k = 2
    · exact impl_text_leaf room k n s A _ c kids w (.inr h2) hok tab
    obtain ⟨r, rfl, ⟨rfl, x, rfl, hx⟩ | ⟨hk, x, y, rfl, hx, hy⟩⟩ := okT_kids h1 h2 hok
    · exact impl_text_not r (by omega) n s A c x (ih (nodes x) (by rw [← hN]; exact kid_lt (by simp)) x rfl) hx w row tab
    · exact impl_text_two r (by omega) k n hk s A c x y (ih (nodes x) (by rw [← hN]; exact kid_lt (by simp)) x rfl) (ih (nodes y) (by rw [← hN]; exact kid_lt (by simp)) y rfl) hx hy w row tab
set_option maxHeartbeats 400000 in
theorem impl_TermText (t : Tm) (k n : Int) (s : ByteArray) (A : Option Addr) (m c : Nat) (w : World) (ht : TmIs AnyB w [.int .i64 k, .int .i64 n, .string s, .slice A m c] t) (tab : TabW w) :
    Calls Tryd.prog 41 #[.agg #[.int .i64 k, .int .i64 n, .string s, .slice A m c]] w fun e w' => e = .returned (.string ⟨(txtR t).toArray⟩) ∧ Below w.heap.size w w' := by
  have HT := Lib.hid ht
  have TB := Lib.hid tab
  clear ht tab
  cases h : okT 6 t with
  | false =>
    have FR := Lib.hid (txtR_no h)
    have OK := Lib.hid h
    clear h
    go_enter Tryd.func41, Tryd.ntmps41
    go_wp2_with fail
    refine (impl_TermOk t k n s A m c _ (HT.out.belowA (by repeat' (first | exact Below.refl _ _ | exact Nat.le_refl _ | (refine Below.alloc ?_ ?_ _) | (refine Below.setCell ?_ ?_ _) | (refine Below.drew ?_) | (refine below_drewN ?_ _) | assumption | (simp; done) | (simp; omega))))).mono ?_
    rintro e w1 ⟨rfl, b1⟩
    have B1 : Hid (Below w.heap.size w w1) := Lib.hid (Below.trans (by repeat' (first | exact Below.refl _ _ | exact Nat.le_refl _ | (refine Below.alloc ?_ ?_ _) | (refine Below.setCell ?_ ?_ _) | (refine Below.drew ?_) | (refine below_drewN ?_ _) | assumption | (simp; done) | (simp; omega))) (b1.mono (by simp)))
    rw [OK.out]
    clear b1
    go_wp2_with fail
    go_ret
    exact ⟨by rw [FR.out]; rfl, B1.out⟩
  | true =>
    have FR := Lib.hid (txtR_yes h)
    have OK := Lib.hid h
    clear h
    go_enter Tryd.func41, Tryd.ntmps41
    go_wp2_with fail
    refine (impl_TermOk t k n s A m c _ (HT.out.belowA (by repeat' (first | exact Below.refl _ _ | exact Nat.le_refl _ | (refine Below.alloc ?_ ?_ _) | (refine Below.setCell ?_ ?_ _) | (refine Below.drew ?_) | (refine below_drewN ?_ _) | assumption | (simp; done) | (simp; omega))))).mono ?_
    rintro e w1 ⟨rfl, b1⟩
    have B1 : Hid (Below w.heap.size w w1) := Lib.hid (Below.trans (by repeat' (first | exact Below.refl _ _ | exact Nat.le_refl _ | (refine Below.alloc ?_ ?_ _) | (refine Below.setCell ?_ ?_ _) | (refine Below.drew ?_) | (refine below_drewN ?_ _) | assumption | (simp; done) | (simp; omega))) (b1.mono (by simp)))
    have X1 : Box4 w1 w.heap.size (vt k n s A m c) := Box4.below (Box4.lit rfl) b1
    obtain ⟨p0, p1, p2, p3⟩ := X1
    simp only [vt] at p0 p1 p2 p3
    rw [OK.out]
    clear b1
    go_wp2_with fail
    refine (impl_textOfTerm t 6 k n s A m c _ OK.out (by omega) (HT.out.belowA B1.out) (TB.out.below B1.out)).mono ?_
    rintro e w2 ⟨rfl, b2⟩
    have B2 := Lib.hid (below_then B1.out b2)
    clear b2
    generalize hX : txtT t = X at *
    go_wp2_with fail
    go_ret
    exact ⟨by rw [FR.out]; rfl, B2.out⟩
set_option maxHeartbeats 400000 in
theorem spec_TermText (t : Tm) (k n : Int) (s : ByteArray) (A : Option Addr) (m c : Nat) (w : World) (ht : TmIs AnyB w [.int .i64 k, .int .i64 n, .string s, .slice A m c] t) :
    Calls Tryd.prog 90 #[.agg #[.int .i64 k, .int .i64 n, .string s, .slice A m c]] w fun e w' => e = .returned (.string ⟨(txtR t).toArray⟩) ∧ Below w.heap.size w w' := by
  have HT := Lib.hid ht
  clear ht
  cases h : okT 6 t with
  | false =>
    have FR := Lib.hid (txtR_no h)
    have OK := Lib.hid h
    clear h
    go_enter Tryd.func90, Tryd.ntmps90
    go_wp2_with fail
    refine (spec_TermOk t k n s A m c _ (HT.out.belowA (by repeat' (first | exact Below.refl _ _ | exact Nat.le_refl _ | (refine Below.alloc ?_ ?_ _) | (refine Below.setCell ?_ ?_ _) | (refine Below.drew ?_) | (refine below_drewN ?_ _) | assumption | (simp; done) | (simp; omega))))).mono ?_
    rintro e w1 ⟨rfl, b1⟩
    have B1 : Hid (Below w.heap.size w w1) := Lib.hid (Below.trans (by repeat' (first | exact Below.refl _ _ | exact Nat.le_refl _ | (refine Below.alloc ?_ ?_ _) | (refine Below.setCell ?_ ?_ _) | (refine Below.drew ?_) | (refine below_drewN ?_ _) | assumption | (simp; done) | (simp; omega))) (b1.mono (by simp)))
    rw [OK.out]
    clear b1
    go_wp2_with fail
    go_ret
    exact ⟨by rw [FR.out]; rfl, B1.out⟩
  | true =>
    have FR := Lib.hid (txtR_yes h)
    have OK := Lib.hid h
    clear h
    go_enter Tryd.func90, Tryd.ntmps90
    go_wp2_with fail
    refine (spec_TermOk t k n s A m c _ (HT.out.belowA (by repeat' (first | exact Below.refl _ _ | exact Nat.le_refl _ | (refine Below.alloc ?_ ?_ _) | (refine Below.setCell ?_ ?_ _) | (refine Below.drew ?_) | (refine below_drewN ?_ _) | assumption | (simp; done) | (simp; omega))))).mono ?_
    rintro e w1 ⟨rfl, b1⟩
    have B1 : Hid (Below w.heap.size w w1) := Lib.hid (Below.trans (by repeat' (first | exact Below.refl _ _ | exact Nat.le_refl _ | (refine Below.alloc ?_ ?_ _) | (refine Below.setCell ?_ ?_ _) | (refine Below.drew ?_) | (refine below_drewN ?_ _) | assumption | (simp; done) | (simp; omega))) (b1.mono (by simp)))
    have X1 : Box4 w1 w.heap.size (vt k n s A m c) := Box4.below (Box4.lit rfl) b1
    obtain ⟨p0, p1, p2, p3⟩ := X1
    simp only [vt] at p0 p1 p2 p3
    have hz := cell_lt p0
    rw [OK.out]
    clear b1
    have OB : Hid (OutB w (w1.alloc (.cells #[] 5)) (.slice (some ⟨w1.heap.size, 0, none⟩) 0 0) []) := Lib.hid (OutB.empty B1.out)
    go_wp2_with fail
    refine (spec_l03Say t 6 k n s A m c w _ _ [] OK.out HT.out OB.out (by simp) (by omega)).mono ?_
    rintro e w2 ⟨v2, rfl, o2, _⟩
    have B2 := Lib.hid o2.own
    have e2 : OutB w w2 v2 (txtT t) := o2
    obtain ⟨A2, c2, rfl, _⟩ := e2.slice
    have cv := str_run (w := w2) c2 (Own.rd e2)
    clear o2 e2
    generalize hX : txtT t = X at *
    go_wp2_with fail
    go_ret
    exact ⟨by rw [FR.out]; rfl, B2.out⟩
end Go.Proofs.YtefcdpkficojgaaDoor
