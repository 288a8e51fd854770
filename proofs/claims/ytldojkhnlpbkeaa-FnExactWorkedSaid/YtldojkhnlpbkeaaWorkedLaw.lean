/- Worked in the reference and in the program, and the law over them. -/
import Derived.Test.YtldojkhnlpbkeaaWorked
namespace Go.Proofs.Ytldojkhnlpbkeaa
open Go.RowKit
set_option linter.unusedVariables false

def workK (names : List ByteArray) (values : List Int) (t : Tm) : Int := match okT 6 t with | true => valT names values t | false => 0
theorem workK_yes {names : List ByteArray} {values : List Int} {t : Tm} (h : okT 6 t = true) : workK names values t = valT names values t := by unfold workK; rw [h]
theorem workK_no {names : List ByteArray} {values : List Int} {t : Tm} (h : okT 6 t = false) : workK names values t = 0 := by unfold workK; rw [h]
theorem spec_Worked (names : List ByteArray) (values : List Int) (t : Tm) (k n : Int) (s : ByteArray) (A : Option Addr) (m c : Nat) (vn vi : Value) (w : World) (ht : TmIs AnyB w [.int .i64 k, .int .i64 n, .string s, .slice A m c] t) (hs : IsStrs w vn names) (hi : IsInts w vi values) (hv : ∀ z ∈ values, i64in z) :
    Calls Try.prog 48 #[.agg #[.int .i64 k, .int .i64 n, .string s, .slice A m c], vn, vi] w fun e w' => e = .returned (.int .i64 (workK names values t)) ∧ Below w.heap.size w w' := by
  have HT := Lib.hid ht
  have HS := Lib.hid hs
  have HI := Lib.hid hi
  have HV := Lib.hid hv
  clear ht hs hi hv
  cases ok : okT 6 t
  all_goals
    have OK := Lib.hid ok
    clear ok
    go_enter Try.func48, Try.ntmps48
    go_wp2_with fail
    refine (spec_TermOk t k n s A m c _ (HT.out.belowA (by repeat' (first | exact Below.refl _ _ | exact Nat.le_refl _ | (refine Below.alloc ?_ ?_ _) | (refine Below.setCell ?_ ?_ _) | (refine Below.drew ?_) | (refine below_drewN ?_ _) | assumption | (simp; done) | (simp; omega))))).mono ?_
    rintro e w1 ⟨rfl, b1⟩
    have B1 : Below w.heap.size w w1 := Below.trans (by repeat' (first | exact Below.refl _ _ | exact Nat.le_refl _ | (refine Below.alloc ?_ ?_ _) | (refine Below.setCell ?_ ?_ _) | (refine Below.drew ?_) | (refine below_drewN ?_ _) | assumption | (simp; done) | (simp; omega))) (b1.mono (by simp))
    have H1 := Lib.hid B1
    obtain ⟨hcell, hfree⟩ := old_cells b1
    simp only [World.size_alloc] at hcell hfree
    clear b1 B1
    rw [OK.out]
    go_wp2_with fail
  · go_ret
    exact ⟨ret_int (workK_no OK.out).symm, H1.out⟩
  · refine (spec_workOut names values t 6 k n s A m c vn vi _ OK.out (HT.out.belowA H1.out) (HS.out.below H1.out) (HI.out.below H1.out) HV.out).mono ?_
    rintro e w2 ⟨rfl, b2⟩
    have H2 := Lib.hid (below_then H1.out b2)
    clear b2
    go_wp2_with fail
    go_ret
    exact ⟨ret_int (workK_yes OK.out).symm, H2.out⟩
theorem impl_Worked (names : List ByteArray) (values : List Int) (t : Tm) (k n : Int) (s : ByteArray) (A : Option Addr) (m c : Nat) (vn vi : Value) (w : World) (ht : TmIs AnyB w [.int .i64 k, .int .i64 n, .string s, .slice A m c] t) (hs : IsStrs w vn names) (hi : IsInts w vi values) (hv : ∀ z ∈ values, i64in z) :
    Calls Try.prog 50 #[.agg #[.int .i64 k, .int .i64 n, .string s, .slice A m c], vn, vi] w fun e w' => e = .returned (.int .i64 (workK names values t)) ∧ Below w.heap.size w w' := by
  have HT := Lib.hid ht
  have HS := Lib.hid hs
  have HI := Lib.hid hi
  have HV := Lib.hid hv
  clear ht hs hi hv
  cases ok : okT 6 t
  all_goals
    have OK := Lib.hid ok
    clear ok
    go_enter Try.func50, Try.ntmps50
    go_wp2_with fail
    refine (impl_TermOk t k n s A m c _ (HT.out.belowA (by repeat' (first | exact Below.refl _ _ | exact Nat.le_refl _ | (refine Below.alloc ?_ ?_ _) | (refine Below.setCell ?_ ?_ _) | (refine Below.drew ?_) | (refine below_drewN ?_ _) | assumption | (simp; done) | (simp; omega))))).mono ?_
    rintro e w1 ⟨rfl, b1⟩
    have B1 : Below w.heap.size w w1 := Below.trans (by repeat' (first | exact Below.refl _ _ | exact Nat.le_refl _ | (refine Below.alloc ?_ ?_ _) | (refine Below.setCell ?_ ?_ _) | (refine Below.drew ?_) | (refine below_drewN ?_ _) | assumption | (simp; done) | (simp; omega))) (b1.mono (by simp))
    have H1 := Lib.hid B1
    obtain ⟨hcell, hfree⟩ := old_cells b1
    simp only [World.size_alloc] at hcell hfree
    clear b1 B1
    rw [OK.out]
    go_wp2_with fail
  · go_ret
    exact ⟨ret_int (workK_no OK.out).symm, H1.out⟩
  · refine (impl_workOut names values t 6 k n s A m c vn vi _ OK.out (HT.out.belowA H1.out) (HS.out.below H1.out) (HI.out.below H1.out) HV.out).mono ?_
    rintro e w2 ⟨rfl, b2⟩
    have H2 := Lib.hid (below_then H1.out b2)
    clear b2
    go_wp2_with fail
    go_ret
    exact ⟨ret_int (workK_yes OK.out).symm, H2.out⟩
set_option maxHeartbeats 2000000 in
theorem law_Worked (v : Value) (t : Tm) (vn : Value) (ss : List ByteArray) (vi : Value) (zs : List Int) (w : World) (o : IsTerm AnyB w v t) (os : IsStrs w vn ss ∧ ∀ s ∈ ss, s.size ≤ maxLen) (oi : IsInts w vi zs ∧ ∀ z ∈ zs, i64ok z) :
    Calls Try.prog 11 #[v, vn, vi] w fun e w' => e = .returned (.bool true) ∧ Below w.heap.size w w' := by
  obtain ⟨k, n, s, A, m, c, rfl, ht⟩ := o
  have HT := Lib.hid ht
  have HS := Lib.hid os.1
  have HZ := Lib.hid os.2
  have HI := Lib.hid oi.1
  have HV : Hid (∀ z ∈ zs, i64in z) := Lib.hid oi.2
  obtain ⟨Ai, ci, rfl, hli, hci, _⟩ := oi.1
  unfold maxLen at hci
  clear ht os oi
  by_cases h0 : 1048576 < zs.length
  · go_enter Try.func11, Try.ntmps11
    go_wp2_with fail
    go_ret
    exact ⟨rfl, (by repeat' (first | exact Below.refl _ _ | exact Nat.le_refl _ | (refine Below.alloc ?_ ?_ _) | (refine Below.setCell ?_ ?_ _) | (refine Below.drew ?_) | (refine below_drewN ?_ _) | assumption | (simp; done) | (simp; omega)))⟩
  by_cases h1 : (1048576 : Int) - (totT t : Int) < 0
  · have C1 := Lib.hid (cut0_neg h1)
    go_enter Try.func11, Try.ntmps11
    go_wp2_with fail
    refine (laws_szTerm t k n s A m c _ 1048576 ?_ (by omega) (by omega)).mono ?_
    · exact HT.out.belowA (by repeat' (first | exact Below.refl _ _ | exact Nat.le_refl _ | (refine Below.alloc ?_ ?_ _) | (refine Below.setCell ?_ ?_ _) | (refine Below.drew ?_) | (refine below_drewN ?_ _) | assumption | (simp; done) | (simp; omega)))
    rintro e w1 ⟨rfl, b1⟩
    have B1 : Below w.heap.size w w1 := Below.trans (by repeat' (first | exact Below.refl _ _ | exact Nat.le_refl _ | (refine Below.alloc ?_ ?_ _) | (refine Below.setCell ?_ ?_ _) | (refine Below.drew ?_) | (refine below_drewN ?_ _) | assumption | (simp; done) | (simp; omega))) (b1.mono (by simp))
    have H1 := Lib.hid B1
    clear b1 B1
    rw [C1.out]
    go_wp2_with fail
    go_ret
    exact ⟨rfl, H1.out⟩
  have C1 := Lib.hid (cut0_pos (n := (1048576 : Int) - (totT t : Int)) (by omega))
  have htot : totT t ≤ 1048576 := by omega
  have h1' : 0 ≤ (1048576 : Int) - (totT t : Int) := by omega
  by_cases h2 : (1048576 : Int) - (totT t : Int) - (totS ss : Int) < 0
  · have C2 := Lib.hid (cut0_neg h2)
    go_enter Try.func11, Try.ntmps11
    go_wp2_with fail
    refine (laws_szTerm t k n s A m c _ 1048576 ?_ (by omega) (by omega)).mono ?_
    · exact HT.out.belowA (by repeat' (first | exact Below.refl _ _ | exact Nat.le_refl _ | (refine Below.alloc ?_ ?_ _) | (refine Below.setCell ?_ ?_ _) | (refine Below.drew ?_) | (refine below_drewN ?_ _) | assumption | (simp; done) | (simp; omega)))
    rintro e w1 ⟨rfl, b1⟩
    have B1 : Below w.heap.size w w1 := Below.trans (by repeat' (first | exact Below.refl _ _ | exact Nat.le_refl _ | (refine Below.alloc ?_ ?_ _) | (refine Below.setCell ?_ ?_ _) | (refine Below.drew ?_) | (refine below_drewN ?_ _) | assumption | (simp; done) | (simp; omega))) (b1.mono (by simp))
    have H1 := Lib.hid B1
    clear b1 B1
    rw [C1.out]
    go_wp2_with fail
    refine (laws_szStringS vn ss _ _ (HS.out.below H1.out) HZ.out (by omega) (by omega)).mono ?_
    rintro e w2 ⟨rfl, rfl⟩
    rw [C2.out]
    go_wp2_with fail
    go_ret
    exact ⟨rfl, H1.out⟩
  have C2 := Lib.hid (cut0_pos (n := (1048576 : Int) - (totT t : Int) - (totS ss : Int)) (by omega))
  have hlen : ss.length ≤ 1048576 := by unfold totS at h2; omega
  have h2' : 0 ≤ (1048576 : Int) - (totT t : Int) - (totS ss : Int) := by omega
  go_enter Try.func11, Try.ntmps11
  go_wp2_with fail
  refine (laws_szTerm t k n s A m c _ 1048576 ?_ (by omega) (by omega)).mono ?_
  · exact HT.out.belowA (by repeat' (first | exact Below.refl _ _ | exact Nat.le_refl _ | (refine Below.alloc ?_ ?_ _) | (refine Below.setCell ?_ ?_ _) | (refine Below.drew ?_) | (refine below_drewN ?_ _) | assumption | (simp; done) | (simp; omega)))
  rintro e w1 ⟨rfl, b1⟩
  have B1 : Below w.heap.size w w1 := Below.trans (by repeat' (first | exact Below.refl _ _ | exact Nat.le_refl _ | (refine Below.alloc ?_ ?_ _) | (refine Below.setCell ?_ ?_ _) | (refine Below.drew ?_) | (refine below_drewN ?_ _) | assumption | (simp; done) | (simp; omega))) (b1.mono (by simp))
  have X1 : Box4 w1 w.heap.size (vt k n s A m c) := Box4.below (Box4.lit rfl) b1
  have H1 := Lib.hid B1
  have BX1 := Lib.hid X1
  have T1 := Lib.hid (HT.out.belowA B1)
  have S1 := Lib.hid (HS.out.below B1)
  have I1 := Lib.hid (HI.out.below B1)
  clear b1 B1 HT HS HI
  obtain ⟨p0, p1, p2, p3⟩ := X1
  simp only [vt] at p0 p1 p2 p3
  rw [C1.out]
  go_wp2_with fail
  refine (laws_szStringS vn ss _ _ S1.out HZ.out (by omega) (by omega)).mono ?_
  rintro e w1' ⟨rfl, rfl⟩
  rw [C2.out]
  go_wp2_with fail
  refine (laws_toTerm t k n s A m c _ T1.out htot).mono ?_
  rintro e w2 ⟨k2, n2, s2, A2, m2, c2, rfl, t2, b2⟩
  have T2 := Lib.hid t2.any
  have H2 := Lib.hid (below_then H1.out b2)
  have BX2 := Lib.hid (BX1.out.below b2)
  have TT2 := Lib.hid (T1.out.belowA b2)
  have S2 := Lib.hid (S1.out.below b2)
  have I2 := Lib.hid (I1.out.below b2)
  clear b2 t2 p0 p1 p2 p3 BX1 H1 T1 S1 I1
  go_wp2_with fail
  refine (laws_toStringS vn ss _ S2.out hlen).mono ?_
  rintro e w3 ⟨v3, rfl, s3, b3⟩
  have SS3 := Lib.hid s3
  have T3 := Lib.hid (T2.out.belowA b3)
  have H3 := Lib.hid (below_then H2.out b3)
  have BX3 := Lib.hid (BX2.out.below b3)
  have TT3 := Lib.hid (TT2.out.belowA b3)
  have S3 := Lib.hid (S2.out.below b3)
  have I3 := Lib.hid (I2.out.below b3)
  clear b3 s3 BX2 H2 T2 S2 I2 TT2
  go_wp2_with fail
  refine (laws_toIntS _ zs _ I3.out (by omega)).mono ?_
  rintro e w4 ⟨v4, rfl, own4⟩
  have II4 := Lib.hid (IsIntsF.of_own own4 (Nat.zero_le _)).is
  have b4 := own4.2
  have T4 := Lib.hid (T3.out.belowA b4)
  have SS4 := Lib.hid (SS3.out.below b4)
  have H4 := Lib.hid (below_then H3.out b4)
  have BX4 := Lib.hid (BX3.out.below b4)
  have TT4 := Lib.hid (TT3.out.belowA b4)
  have S4 := Lib.hid (S3.out.below b4)
  have I4 := Lib.hid (I3.out.below b4)
  clear b4 own4 BX3 H3 T3 S3 I3 TT3 SS3
  go_wp2_with fail
  refine (spec_Worked ss zs t k2 n2 s2 A2 m2 c2 v3 v4 _ T4.out SS4.out II4.out HV.out).mono ?_
  rintro e w5 ⟨rfl, b5⟩
  have H5 := Lib.hid (below_then H4.out b5)
  have BX5 := Lib.hid (BX4.out.below b5)
  have TT5 := Lib.hid (TT4.out.belowA b5)
  have S5 := Lib.hid (S4.out.below b5)
  have I5 := Lib.hid (I4.out.below b5)
  clear b5 BX4 H4 T4 S4 I4 TT4 SS4 II4
  obtain ⟨p0, p1, p2, p3⟩ := BX5.out
  simp only [vt] at p0 p1 p2 p3
  go_wp2_with fail
  refine (laws_toTerm t k n s A m c _ TT5.out htot).mono ?_
  rintro e w6 ⟨k6, n6, s6, A6, m6, c6, rfl, t6, b6⟩
  have T6 := Lib.hid t6.any
  have H6 := Lib.hid (below_then H5.out b6)
  have BX6 := Lib.hid (BX5.out.below b6)
  have TT6 := Lib.hid (TT5.out.belowA b6)
  have S6 := Lib.hid (S5.out.below b6)
  have I6 := Lib.hid (I5.out.below b6)
  clear b6 t6 p0 p1 p2 p3 BX5 H5 TT5 S5 I5
  go_wp2_with fail
  refine (laws_toStringS vn ss _ (S6.out.below (by repeat' (first | exact Below.refl _ _ | exact Nat.le_refl _ | (refine Below.alloc ?_ ?_ _) | (refine Below.setCell ?_ ?_ _) | (refine Below.drew ?_) | (refine below_drewN ?_ _) | assumption | (simp; done) | (simp; omega)))) hlen).mono ?_
  rintro e w7 ⟨v7, rfl, s7, b7⟩
  have B7 : Below w6.heap.size w6 w7 := Below.trans (Below.alloc (Below.refl _ _) (Nat.le_refl _) _) (b7.mono (by simp))
  have Y7 : Box4 w7 w6.heap.size (vt k6 n6 s6 A6 m6 c6) := Box4.below (Box4.lit rfl) b7
  have BY7 := Lib.hid Y7
  have SS7 := Lib.hid s7
  have T7 := Lib.hid (T6.out.belowA B7)
  have H7 := Lib.hid (below_then H6.out B7)
  have BX7 := Lib.hid (BX6.out.below B7)
  have TT7 := Lib.hid (TT6.out.belowA B7)
  have S7 := Lib.hid (S6.out.below B7)
  have I7 := Lib.hid (I6.out.below B7)
  clear b7 B7 Y7 s7 BX6 H6 TT6 S6 I6 T6
  go_wp2_with fail
  refine (laws_toIntS _ zs _ I7.out (by omega)).mono ?_
  rintro e w8 ⟨v8, rfl, own8⟩
  have II8 := Lib.hid (IsIntsF.of_own own8 (Nat.zero_le _)).is
  have b8 := own8.2
  have BY8 := Lib.hid (BY7.out.below b8)
  have SS8 := Lib.hid (SS7.out.below b8)
  have T8 := Lib.hid (T7.out.belowA b8)
  have H8 := Lib.hid (below_then H7.out b8)
  have BX8 := Lib.hid (BX7.out.below b8)
  have TT8 := Lib.hid (TT7.out.belowA b8)
  have S8 := Lib.hid (S7.out.below b8)
  have I8 := Lib.hid (I7.out.below b8)
  clear b8 own8 BX7 H7 TT7 S7 I7 T7 BY7 SS7
  obtain ⟨r0, r1, r2, r3⟩ := BY8.out
  simp only [vt] at r0 r1 r2 r3
  go_wp2_with fail
  refine (impl_Worked ss zs t k6 n6 s6 A6 m6 c6 v7 v8 _ T8.out SS8.out II8.out HV.out).mono ?_
  rintro e w9 ⟨rfl, b9⟩
  have BY9 := Lib.hid (BY8.out.below b9)
  have SS9 := Lib.hid (SS8.out.below b9)
  have II9 := Lib.hid (II8.out.below b9)
  have TY9 := Lib.hid (T8.out.belowA b9)
  have H9 := Lib.hid (below_then H8.out b9)
  have BX9 := Lib.hid (BX8.out.below b9)
  have T9 := Lib.hid (TT8.out.belowA b9)
  have S9 := Lib.hid (S8.out.below b9)
  have I9 := Lib.hid (I8.out.below b9)
  clear b9 BX8 H8 TT8 S8 I8 T8 BY8 SS8 II8 r0 r1 r2 r3
  have hbb : (workK ss zs t != workK ss zs t) = false := by simp
  have st := sameB_yes (rfl : t = t)
  obtain ⟨p0, p1, p2, p3⟩ := BX9.out
  obtain ⟨r0, r1, r2, r3⟩ := BY9.out
  simp only [vt] at p0 p1 p2 p3 r0 r1 r2 r3
  go_wp2_with fail
  go_region_held3 (fun w' => w'.cell? ⟨w.heap.size, 0, none⟩ = some (.int .i64 k) ∧ w'.cell? ⟨w.heap.size, 1, none⟩ = some (.int .i64 n) ∧ w'.cell? ⟨w.heap.size, 2, none⟩ = some (.string s) ∧ w'.cell? ⟨w.heap.size, 3, none⟩ = some (.slice A m c) ∧ w'.cell? ⟨w6.heap.size, 0, none⟩ = some (.int .i64 k6) ∧ w'.cell? ⟨w6.heap.size, 1, none⟩ = some (.int .i64 n6) ∧ w'.cell? ⟨w6.heap.size, 2, none⟩ = some (.string s6) ∧ w'.cell? ⟨w6.heap.size, 3, none⟩ = some (.slice A6 m6 c6))
    (first | go_keep | (go_split_ands; refine ⟨?_, ?_, ?_, ?_, ?_, ?_, ?_, ?_⟩ <;> first | exact cell_keep b11 (by assumption) | exact cell_keep b10 (by assumption)))
    (first
      | (go_at_call 23; (with_reducible refine (laws_toTerm t k n s A m c _ (by exact T9.out.drew) htot).mono ?_); rintro e w10 ⟨k9, n9, s9, A9, m9, c9, rfl, t9, b10⟩)
      | (go_at_call 25; refine (laws_eqTerm t t k6 n6 s6 A6 m6 c6 k9 n9 s9 A9 m9 c9 _ (by exact TY9.out.drew.belowA b10) (by exact t9.any)).mono ?_; rintro e w11 ⟨rfl, b11⟩))
  have b1011 : Below w9.heap.size w9 w11 := below_then (Below.trans (Below.refl _ _).drew b10) b11
  have H11 := Lib.hid (below_then H9.out b1011)
  have SS11 := Lib.hid (SS9.out.below b1011)
  have II11 := Lib.hid (II9.out.below b1011)
  have S11 := Lib.hid (S9.out.below b1011)
  have I11 := Lib.hid (I9.out.below b1011)
  clear b10 b11 b1011 t9 H9 SS9 II9 S9 I9 T9 TY9 BX9 BY9 p0 p1 p2 p3 r0 r1 r2 r3
  have dS : decide (ss = ss) = true := by simp
  have dI : decide (zs = zs) = true := by simp
  go_wp2_with fail
  refine (laws_toStringS vn ss _ S11.out hlen).mono ?_
  rintro e w12 ⟨v12, rfl, s12, b12⟩
  have SX12 := Lib.hid s12
  have H12 := Lib.hid (below_then H11.out b12)
  have SS12 := Lib.hid (SS11.out.below b12)
  have II12 := Lib.hid (II11.out.below b12)
  have I12 := Lib.hid (I11.out.below b12)
  clear s12 b12 H11 SS11 II11 S11 I11
  go_wp2_with fail
  refine (laws_eqStringS v7 v12 ss ss _ SS12.out SX12.out).mono ?_
  rintro e w13 ⟨rfl, q13⟩
  have b13 := q13.below
  have H13 := Lib.hid (below_then H12.out b13)
  have II13 := Lib.hid (II12.out.below b13)
  have I13 := Lib.hid (I12.out.below b13)
  clear q13 b13 H12 SS12 II12 I12 SX12
  go_wp2_with fail
  refine (laws_toIntS _ zs _ I13.out (by omega)).mono ?_
  rintro e w14 ⟨v14, rfl, own14⟩
  have II14 := Lib.hid (IsIntsF.of_own own14 (Nat.zero_le _)).is
  have b14 := own14.2
  have H14 := Lib.hid (below_then H13.out b14)
  have IY14 := Lib.hid (II13.out.below b14)
  clear own14 b14 H13 II13 I13
  go_wp2_with fail
  refine (laws_eqIntS v8 v14 zs zs _ IY14.out II14.out).mono ?_
  rintro e w15 ⟨rfl, q15⟩
  have H15 := Lib.hid (below_then H14.out q15.below)
  clear q15 H14
  go_wp2_with fail
  go_ret
  exact ⟨rfl, H15.out⟩
end Go.Proofs.Ytldojkhnlpbkeaa
