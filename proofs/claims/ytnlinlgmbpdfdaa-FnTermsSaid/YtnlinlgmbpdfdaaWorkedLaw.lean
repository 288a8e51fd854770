/- Worked in the reference and in the program, and the law over them. -/
import Derived.Test.YtnlinlgmbpdfdaaWorked
namespace Go.Proofs.Ytnlinlgmbpdfdaa
open Go.RowKit
set_option linter.unusedVariables false

def workK (names : List ByteArray) (values : List Int) (t : Tm) : Int := match okT 6 t with | true => valT names values t | false => 0
theorem workK_yes {names : List ByteArray} {values : List Int} {t : Tm} (h : okT 6 t = true) : workK names values t = valT names values t := by unfold workK; rw [h]
theorem workK_no {names : List ByteArray} {values : List Int} {t : Tm} (h : okT 6 t = false) : workK names values t = 0 := by unfold workK; rw [h]
theorem spec_Worked (names : List ByteArray) (values : List Int) (t : Tm) (k n : Int) (s : ByteArray) (A : Option Addr) (m c : Nat) (vn vi : Value) (w : World) (ht : TmIs AnyB w [.int .i64 k, .int .i64 n, .string s, .slice A m c] t) (hs : IsStrs w vn names) (hi : IsInts w vi values) (hv : ∀ z ∈ values, i64in z) :
    Calls Try.prog 11 #[.agg #[.int .i64 k, .int .i64 n, .string s, .slice A m c], vn, vi] w fun e w' => e = .returned (.int .i64 (workK names values t)) ∧ Below w.heap.size w w' := by
  have HT := Lib.hid ht
  have HS := Lib.hid hs
  have HI := Lib.hid hi
  have HV := Lib.hid hv
  clear ht hs hi hv
  cases ok : okT 6 t
  all_goals
    have OK := Lib.hid ok
    clear ok
    go_enter Try.func11, Try.ntmps11
    go_wp2_with fail
    refine (spec_TermOk t k n s A m c _ (HT.out.belowA (by repeat' (first | exact Below.refl _ _ | exact Nat.le_refl _ | (refine Below.alloc ?_ ?_ _) | (refine Below.setCell ?_ ?_ _) | (refine Below.drew ?_) | (refine below_drewN ?_ _) | assumption | (simp; done) | (simp; omega))))).mono ?_
    rintro e w1 ⟨rfl, b1⟩
    have B1 : Below w.heap.size w w1 := Below.trans (by repeat' (first | exact Below.refl _ _ | exact Nat.le_refl _ | (refine Below.alloc ?_ ?_ _) | (refine Below.setCell ?_ ?_ _) | (refine Below.drew ?_) | (refine below_drewN ?_ _) | assumption | (simp; done) | (simp; omega))) (b1.mono (by simp))
    have H1 := Lib.hid B1
    obtain ⟨hcell, hfree⟩ := old_cells b1
    simp only [World.size_alloc] at hcell hfree
    clear b1 B1
    rw [OK.out]
    go_wp2_with fail
  · go_ret
    exact ⟨ret_int (workK_no OK.out).symm, H1.out⟩
  · refine (spec_workOut names values t 6 k n s A m c vn vi _ OK.out (HT.out.belowA H1.out) (HS.out.below H1.out) (HI.out.below H1.out) HV.out).mono ?_
    rintro e w2 ⟨rfl, b2⟩
    have H2 := Lib.hid (below_then H1.out b2)
    clear b2
    go_wp2_with fail
    go_ret
    exact ⟨ret_int (workK_yes OK.out).symm, H2.out⟩
theorem impl_Worked (names : List ByteArray) (values : List Int) (t : Tm) (k n : Int) (s : ByteArray) (A : Option Addr) (m c : Nat) (vn vi : Value) (w : World) (ht : TmIs AnyB w [.int .i64 k, .int .i64 n, .string s, .slice A m c] t) (hs : IsStrs w vn names) (hi : IsInts w vi values) (hv : ∀ z ∈ values, i64in z) :
    Calls Try.prog 7 #[.agg #[.int .i64 k, .int .i64 n, .string s, .slice A m c], vn, vi] w fun e w' => e = .returned (.int .i64 (workK names values t)) ∧ Below w.heap.size w w' := by
  have HT := Lib.hid ht
  have HS := Lib.hid hs
  have HI := Lib.hid hi
  have HV := Lib.hid hv
  clear ht hs hi hv
  cases ok : okT 6 t
  all_goals
    have OK := Lib.hid ok
    clear ok
    go_enter Try.func7, Try.ntmps7
    go_wp2_with fail
    refine (impl_TermOk t k n s A m c _ (HT.out.belowA (by repeat' (first | exact Below.refl _ _ | exact Nat.le_refl _ | (refine Below.alloc ?_ ?_ _) | (refine Below.setCell ?_ ?_ _) | (refine Below.drew ?_) | (refine below_drewN ?_ _) | assumption | (simp; done) | (simp; omega))))).mono ?_
    rintro e w1 ⟨rfl, b1⟩
    have B1 : Below w.heap.size w w1 := Below.trans (by repeat' (first | exact Below.refl _ _ | exact Nat.le_refl _ | (refine Below.alloc ?_ ?_ _) | (refine Below.setCell ?_ ?_ _) | (refine Below.drew ?_) | (refine below_drewN ?_ _) | assumption | (simp; done) | (simp; omega))) (b1.mono (by simp))
    have H1 := Lib.hid B1
    obtain ⟨hcell, hfree⟩ := old_cells b1
    simp only [World.size_alloc] at hcell hfree
    clear b1 B1
    rw [OK.out]
    go_wp2_with fail
  · go_ret
    exact ⟨ret_int (workK_no OK.out).symm, H1.out⟩
  · refine (impl_workOut names values t 6 k n s A m c vn vi _ OK.out (HT.out.belowA H1.out) (HS.out.below H1.out) (HI.out.below H1.out) HV.out).mono ?_
    rintro e w2 ⟨rfl, b2⟩
    have H2 := Lib.hid (below_then H1.out b2)
    clear b2
    go_wp2_with fail
    go_ret
    exact ⟨ret_int (workK_yes OK.out).symm, H2.out⟩
end Go.Proofs.Ytnlinlgmbpdfdaa
