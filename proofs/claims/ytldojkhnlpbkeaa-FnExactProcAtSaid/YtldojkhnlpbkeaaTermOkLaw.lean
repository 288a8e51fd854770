/- TermOk in the reference and in the program: both return whether a term is right; and the law over them. -/
import Derived.Test.YtldojkhnlpbkeaaTermOk
namespace Go.Proofs.Ytldojkhnlpbkeaa
open Go.RowKit
set_option linter.unusedVariables false

theorem spec_TermOk (t : Tm) (k n : Int) (s : ByteArray) (A : Option Addr) (m c : Nat) (w : World) (ht : TmIs AnyB w [.int .i64 k, .int .i64 n, .string s, .slice A m c] t) :
    Calls Try.prog 22 #[.agg #[.int .i64 k, .int .i64 n, .string s, .slice A m c]] w fun e w' => e = .returned (.bool (okT 6 t)) ∧ Below w.heap.size w w' := by
  have HT := Lib.hid ht
  clear ht
  go_enter Try.func22, Try.ntmps22
  go_wp2_with fail
  refine (right_at 6 (by omega) t k n s A m c _ (HT.out.belowA (by repeat' (first | exact Below.refl _ _ | exact Nat.le_refl _ | (refine Below.alloc ?_ ?_ _) | (refine Below.setCell ?_ ?_ _) | (refine Below.drew ?_) | (refine below_drewN ?_ _) | assumption | (simp; done) | (simp; omega))))).mono ?_
  rintro e w1 ⟨rfl, b1⟩
  have B1 : Below w.heap.size w w1 := Below.trans (by repeat' (first | exact Below.refl _ _ | exact Nat.le_refl _ | (refine Below.alloc ?_ ?_ _) | (refine Below.setCell ?_ ?_ _) | (refine Below.drew ?_) | (refine below_drewN ?_ _) | assumption | (simp; done) | (simp; omega))) (b1.mono (by simp))
  have H1 := Lib.hid B1
  clear b1 B1
  go_wp2_with fail
  go_ret
  exact ⟨rfl, H1.out⟩
theorem impl_TermOk (t : Tm) (k n : Int) (s : ByteArray) (A : Option Addr) (m c : Nat) (w : World) (ht : TmIs AnyB w [.int .i64 k, .int .i64 n, .string s, .slice A m c] t) :
    Calls Try.prog 24 #[.agg #[.int .i64 k, .int .i64 n, .string s, .slice A m c]] w fun e w' => e = .returned (.bool (okT 6 t)) ∧ Below w.heap.size w w' := by
  have HT := Lib.hid ht
  clear ht
  go_enter Try.func24, Try.ntmps24
  go_wp2_with fail
  refine (fits_at 6 (by omega) t k n s A m c _ (HT.out.belowA (by repeat' (first | exact Below.refl _ _ | exact Nat.le_refl _ | (refine Below.alloc ?_ ?_ _) | (refine Below.setCell ?_ ?_ _) | (refine Below.drew ?_) | (refine below_drewN ?_ _) | assumption | (simp; done) | (simp; omega))))).mono ?_
  rintro e w1 ⟨rfl, b1⟩
  have B1 : Below w.heap.size w w1 := Below.trans (by repeat' (first | exact Below.refl _ _ | exact Nat.le_refl _ | (refine Below.alloc ?_ ?_ _) | (refine Below.setCell ?_ ?_ _) | (refine Below.drew ?_) | (refine below_drewN ?_ _) | assumption | (simp; done) | (simp; omega))) (b1.mono (by simp))
  have H1 := Lib.hid B1
  clear b1 B1
  go_wp2_with fail
  go_ret
  exact ⟨rfl, H1.out⟩
set_option maxHeartbeats 400000 in
theorem law_TermOk (v : Value) (t : Tm) (w : World) (o : IsTerm AnyB w v t) :
    Calls Try.prog 5 #[v] w fun e w' => e = .returned (.bool true) ∧ Below w.heap.size w w' := by
  obtain ⟨k, n, s, A, m, c, rfl, ht⟩ := o
  have HT := Lib.hid ht
  clear ht
  by_cases h1 : (1048576 : Int) - (totT t : Int) < 0
  · have C1 := Lib.hid (cut0_neg h1)
    go_enter Try.func5, Try.ntmps5
    go_wp2_with fail
    refine (laws_szTerm t k n s A m c _ 1048576 ?_ (by omega) (by omega)).mono ?_
    · exact HT.out.belowA (by repeat' (first | exact Below.refl _ _ | exact Nat.le_refl _ | (refine Below.alloc ?_ ?_ _) | (refine Below.setCell ?_ ?_ _) | (refine Below.drew ?_) | (refine below_drewN ?_ _) | assumption | (simp; done) | (simp; omega)))
    rintro e w1 ⟨rfl, b1⟩
    have B1 : Below w.heap.size w w1 := Below.trans (by repeat' (first | exact Below.refl _ _ | exact Nat.le_refl _ | (refine Below.alloc ?_ ?_ _) | (refine Below.setCell ?_ ?_ _) | (refine Below.drew ?_) | (refine below_drewN ?_ _) | assumption | (simp; done) | (simp; omega))) (b1.mono (by simp))
    have H1 := Lib.hid B1
    clear b1 B1
    rw [C1.out]
    go_wp2_with fail
    go_ret
    exact ⟨rfl, H1.out⟩
  · have C1 := Lib.hid (cut0_pos (n := (1048576 : Int) - (totT t : Int)) (by omega))
    have htot : totT t ≤ 1048576 := by omega
    have h1' : 0 ≤ (1048576 : Int) - (totT t : Int) := by omega
    go_enter Try.func5, Try.ntmps5
    go_wp2_with fail
    refine (laws_szTerm t k n s A m c _ 1048576 ?_ (by omega) (by omega)).mono ?_
    · exact HT.out.belowA (by repeat' (first | exact Below.refl _ _ | exact Nat.le_refl _ | (refine Below.alloc ?_ ?_ _) | (refine Below.setCell ?_ ?_ _) | (refine Below.drew ?_) | (refine below_drewN ?_ _) | assumption | (simp; done) | (simp; omega)))
    rintro e w1 ⟨rfl, b1⟩
    have B1 : Below w.heap.size w w1 := Below.trans (by repeat' (first | exact Below.refl _ _ | exact Nat.le_refl _ | (refine Below.alloc ?_ ?_ _) | (refine Below.setCell ?_ ?_ _) | (refine Below.drew ?_) | (refine below_drewN ?_ _) | assumption | (simp; done) | (simp; omega))) (b1.mono (by simp))
    have X1 : Box4 w1 w.heap.size (vt k n s A m c) := Box4.below (Box4.lit rfl) b1
    have H1 := Lib.hid B1
    have BX1 := Lib.hid X1
    have T1 := Lib.hid (HT.out.belowA B1)
    clear b1 B1
    obtain ⟨p0, p1, p2, p3⟩ := X1
    simp only [vt] at p0 p1 p2 p3
    rw [C1.out]
    go_wp2_with fail
    refine (laws_toTerm t k n s A m c _ T1.out htot).mono ?_
    rintro e w2 ⟨k2, n2, s2, A2, m2, c2, rfl, t2, b2⟩
    have T2 := Lib.hid t2.any
    have H2 := Lib.hid (below_then H1.out b2)
    have BX2 := Lib.hid (BX1.out.below b2)
    have TT2 := Lib.hid (T1.out.belowA b2)
    clear b2 t2 p0 p1 p2 p3 BX1 H1 T1 HT
    go_wp2_with fail
    refine (spec_TermOk t k2 n2 s2 A2 m2 c2 _ T2.out).mono ?_
    rintro e w3 ⟨rfl, b3⟩
    have H3 := Lib.hid (below_then H2.out b3)
    have BX3 := Lib.hid (BX2.out.below b3)
    have T3 := Lib.hid (TT2.out.belowA b3)
    clear b3 BX2 H2 T2 TT2
    obtain ⟨p0, p1, p2, p3⟩ := BX3.out
    simp only [vt] at p0 p1 p2 p3
    go_wp2_with fail
    refine (laws_toTerm t k n s A m c _ T3.out htot).mono ?_
    rintro e w4 ⟨k4, n4, s4, A4, m4, c4, rfl, t4, b4⟩
    have T4 := Lib.hid t4.any
    have H4 := Lib.hid (below_then H3.out b4)
    have BX4 := Lib.hid (BX3.out.below b4)
    have TT4 := Lib.hid (T3.out.belowA b4)
    clear b4 t4 p0 p1 p2 p3 BX3 H3 T3
    go_wp2_with fail
    refine (impl_TermOk t k4 n4 s4 A4 m4 c4 _ (T4.out.belowA (by repeat' (first | exact Below.refl _ _ | exact Nat.le_refl _ | (refine Below.alloc ?_ ?_ _) | (refine Below.setCell ?_ ?_ _) | (refine Below.drew ?_) | (refine below_drewN ?_ _) | assumption | (simp; done) | (simp; omega))))).mono ?_
    rintro e w5 ⟨rfl, b5⟩
    have B5 : Below w4.heap.size w4 w5 := Below.trans (Below.alloc (Below.refl _ _) (Nat.le_refl _) _) (b5.mono (by simp))
    have Y5 : Box4 w5 w4.heap.size (vt k4 n4 s4 A4 m4 c4) := Box4.below (Box4.lit rfl) b5
    have BY5 := Lib.hid Y5
    have BX5 := Lib.hid (BX4.out.below B5)
    have T5 := Lib.hid (TT4.out.belowA B5)
    have TY5 := Lib.hid (T4.out.belowA B5)
    have H5 := Lib.hid (below_then H4.out B5)
    clear b5 B5 Y5 BX4 T4 TT4 H4
    have hbb : (okT 6 t != okT 6 t) = false := by simp
    have st := sameB_yes (rfl : t = t)
    obtain ⟨p0, p1, p2, p3⟩ := BX5.out
    obtain ⟨r0, r1, r2, r3⟩ := BY5.out
    simp only [vt] at p0 p1 p2 p3 r0 r1 r2 r3
    go_wp2_with fail
    go_region_held3 (fun w' => w'.cell? ⟨w.heap.size, 0, none⟩ = some (.int .i64 k) ∧ w'.cell? ⟨w.heap.size, 1, none⟩ = some (.int .i64 n) ∧ w'.cell? ⟨w.heap.size, 2, none⟩ = some (.string s) ∧ w'.cell? ⟨w.heap.size, 3, none⟩ = some (.slice A m c) ∧ w'.cell? ⟨w4.heap.size, 0, none⟩ = some (.int .i64 k4) ∧ w'.cell? ⟨w4.heap.size, 1, none⟩ = some (.int .i64 n4) ∧ w'.cell? ⟨w4.heap.size, 2, none⟩ = some (.string s4) ∧ w'.cell? ⟨w4.heap.size, 3, none⟩ = some (.slice A4 m4 c4))
      (first | go_keep | (go_split_ands; refine ⟨?_, ?_, ?_, ?_, ?_, ?_, ?_, ?_⟩ <;> first | exact cell_keep b10 (by assumption) | exact cell_keep b9 (by assumption)))
      (first
        | (go_at_call 23; (with_reducible refine (laws_toTerm t k n s A m c _ (by exact T5.out.drew) htot).mono ?_); rintro e w9 ⟨k9, n9, s9, A9, m9, c9, rfl, t9, b9⟩)
        | (go_at_call 25; refine (laws_eqTerm t t k4 n4 s4 A4 m4 c4 k9 n9 s9 A9 m9 c9 _ (by exact TY5.out.drew.belowA b9) (by exact t9.any)).mono ?_; rintro e w10 ⟨rfl, b10⟩))
    have b910 : Below w5.heap.size w5 w10 := below_then (Below.trans (Below.refl _ _).drew b9) b10
    have H10 := Lib.hid (below_then H5.out b910)
    clear b9 b10 b910 t9
    go_wp2_with fail
    go_ret
    exact ⟨rfl, H10.out⟩
end Go.Proofs.Ytldojkhnlpbkeaa
