/- The law over SameTerm: the program returns what the reference returns, and leaves both terms as they were. -/
import Derived.Test.YtbjnagnkekibdaaSameTerm
namespace Go.Proofs.Ytbjnagnkekibdaa
open Go.RowKit
set_option linter.unusedVariables false

set_option maxHeartbeats 400000 in
theorem law_SameTerm (v : Value) (t : Tm) (v' : Value) (u : Tm) (w : World) (o : IsTerm AnyB w v t) (o' : IsTerm AnyB w v' u) :
    Calls Try.prog 14 #[v, v'] w fun e w' => e = .returned (.bool true) ∧ Below w.heap.size w w' := by
  obtain ⟨k, n, s, A, m, c, rfl, ht⟩ := o
  obtain ⟨k', n', s', A', m', c', rfl, hu⟩ := o'
  have HT := Lib.hid ht
  have HU := Lib.hid hu
  clear ht hu
  by_cases h1 : (1048576 : Int) - (totT t : Int) < 0
  · have C1 := Lib.hid (cut0_neg h1)
    go_enter Try.func14, Try.ntmps14
    go_wp2_with fail
    refine (laws_szTerm t k n s A m c _ 1048576 ?_ (by omega) (by omega)).mono ?_
    · exact HT.out.belowA (by repeat' (first | exact Below.refl _ _ | exact Nat.le_refl _ | (refine Below.alloc ?_ ?_ _) | (refine Below.setCell ?_ ?_ _) | (refine Below.drew ?_) | (refine below_drewN ?_ _) | assumption | (simp; done) | (simp; omega)))
    rintro e w1 ⟨rfl, b1⟩
    have B1 : Below w.heap.size w w1 := Below.trans (by repeat' (first | exact Below.refl _ _ | exact Nat.le_refl _ | (refine Below.alloc ?_ ?_ _) | (refine Below.setCell ?_ ?_ _) | (refine Below.drew ?_) | (refine below_drewN ?_ _) | assumption | (simp; done) | (simp; omega))) (b1.mono (by simp; omega))
    have H1 := Lib.hid B1
    clear b1 B1
    rw [C1.out]
    go_wp2_with fail
    go_ret
    exact ⟨rfl, H1.out⟩
  · have C1 := Lib.hid (cut0_pos (n := (1048576 : Int) - (totT t : Int)) (by omega))
    have htot : totT t ≤ 1048576 := by omega
    have h1' : 0 ≤ (1048576 : Int) - (totT t : Int) := by omega
    go_enter Try.func14, Try.ntmps14
    go_wp2_with fail
    refine (laws_szTerm t k n s A m c _ 1048576 ?_ (by omega) (by omega)).mono ?_
    · exact HT.out.belowA (by repeat' (first | exact Below.refl _ _ | exact Nat.le_refl _ | (refine Below.alloc ?_ ?_ _) | (refine Below.setCell ?_ ?_ _) | (refine Below.drew ?_) | (refine below_drewN ?_ _) | assumption | (simp; done) | (simp; omega)))
    rintro e w1 ⟨rfl, b1⟩
    have B1 : Below w.heap.size w w1 := Below.trans (by repeat' (first | exact Below.refl _ _ | exact Nat.le_refl _ | (refine Below.alloc ?_ ?_ _) | (refine Below.setCell ?_ ?_ _) | (refine Below.drew ?_) | (refine below_drewN ?_ _) | assumption | (simp; done) | (simp; omega))) (b1.mono (by simp; omega))
    have X1 : Box4 w1 w.heap.size (vt k n s A m c) := Box4.below (Box4.below (Box4.lit rfl) (by repeat' (first | exact Below.refl _ _ | exact Nat.le_refl _ | (refine Below.alloc ?_ ?_ _) | (refine Below.setCell ?_ ?_ _) | (refine Below.drew ?_) | (refine below_drewN ?_ _) | assumption | (simp; done) | (simp; omega)))) b1
    have Y1 : Box4 w1 (w.heap.size + 1) (vt k' n' s' A' m' c') := Box4.below (Box4.lit (by simp)) b1
    have H1 := Lib.hid B1
    have BX1 := Lib.hid X1
    have BY1 := Lib.hid Y1
    obtain ⟨p0, p1, p2, p3⟩ := X1
    obtain ⟨r0, r1, r2, r3⟩ := Y1
    simp only [vt] at p0 p1 p2 p3 r0 r1 r2 r3
    clear b1 B1
    rw [C1.out]
    go_wp2_with fail
    refine (laws_szTerm u k' n' s' A' m' c' _ _ (HU.out.belowA H1.out) h1' (by omega)).mono ?_
    rintro e w2 ⟨rfl, b2⟩
    have H2 := Lib.hid (below_then H1.out b2)
    have BX2 := Lib.hid (BX1.out.below b2)
    have BY2 := Lib.hid (BY1.out.below b2)
    clear b2 p0 p1 p2 p3 r0 r1 r2 r3 BX1 BY1 H1
    obtain ⟨p0, p1, p2, p3⟩ := BX2.out
    obtain ⟨r0, r1, r2, r3⟩ := BY2.out
    simp only [vt] at p0 p1 p2 p3 r0 r1 r2 r3
    by_cases h2 : (1048576 : Int) - (totT t : Int) - (totT u : Int) < 0
    · rw [cut0_neg h2]
      go_wp2_with fail
      go_ret
      exact ⟨rfl, H2.out⟩
    · have hutot : totT u ≤ 1048576 := by omega
      rw [cut0_pos (by omega)]
      have T2 := Lib.hid (HT.out.belowA H2.out)
      have U2 := Lib.hid (HU.out.belowA H2.out)
      clear HT HU
      go_wp2_with fail
      go_region_held3 (fun w' => w'.cell? ⟨w.heap.size, 0, none⟩ = some (.int .i64 k) ∧ w'.cell? ⟨w.heap.size, 1, none⟩ = some (.int .i64 n) ∧ w'.cell? ⟨w.heap.size, 2, none⟩ = some (.string s) ∧ w'.cell? ⟨w.heap.size, 3, none⟩ = some (.slice A m c) ∧ w'.cell? ⟨w.heap.size + 1, 0, none⟩ = some (.int .i64 k') ∧ w'.cell? ⟨w.heap.size + 1, 1, none⟩ = some (.int .i64 n') ∧ w'.cell? ⟨w.heap.size + 1, 2, none⟩ = some (.string s') ∧ w'.cell? ⟨w.heap.size + 1, 3, none⟩ = some (.slice A' m' c'))
        (first | go_keep | (go_split_ands; refine ⟨?_, ?_, ?_, ?_, ?_, ?_, ?_, ?_⟩ <;> first | exact cell_keep b5 (by assumption) | exact cell_keep b4 (by assumption) | exact cell_keep b3 (by assumption)))
        (first
          | (go_at_call 53; (with_reducible refine (laws_toTerm t k n s A m c _ (by exact T2.out.drew) htot).mono ?_); rintro e w3 ⟨k3, n3, s3, A3, m3, c3, rfl, t3, b3⟩)
          | (go_at_call 53; (with_reducible refine (laws_toTerm u k' n' s' A' m' c' _ (by exact U2.out.drew.belowA b3) hutot).mono ?_); rintro e w4 ⟨k4, n4, s4, A4, m4, c4, rfl, t4, b4⟩)
          | (go_at_call 52; refine (spec_SameTerm t u k3 n3 s3 A3 m3 c3 k4 n4 s4 A4 m4 c4 _ (by exact t3.any.belowA b4) (by exact t4.any)).mono ?_; rintro e w5 ⟨rfl, b5⟩))
      have b35 : Below w2.heap.size w2 w5 := below_then (below_then (Below.trans (Below.refl _ _).drew b3) b4) b5
      have H5 := Lib.hid (below_then H2.out b35)
      have BX5 := Lib.hid (BX2.out.below b35)
      have BY5 := Lib.hid (BY2.out.below b35)
      have T5 := Lib.hid (T2.out.belowA b35)
      have U5 := Lib.hid (U2.out.belowA b35)
      clear b3 b4 b5 b35 t3 t4 p0 p1 p2 p3 r0 r1 r2 r3 BX2 BY2 H2 T2 U2
      obtain ⟨p0, p1, p2, p3⟩ := BX5.out
      obtain ⟨r0, r1, r2, r3⟩ := BY5.out
      simp only [vt] at p0 p1 p2 p3 r0 r1 r2 r3
      go_wp2_with fail
      refine (laws_toTerm t k n s A m c _ T5.out htot).mono ?_
      rintro e w6 ⟨k6, n6, s6, A6, m6, c6, rfl, t6, b6⟩
      have TF6 := Lib.hid t6
      have H6 := Lib.hid (below_then H5.out b6)
      have BY6 := Lib.hid (BY5.out.below b6)
      have BX6 := Lib.hid (BX5.out.below b6)
      have T6 := Lib.hid (T5.out.belowA b6)
      have U6 := Lib.hid (U5.out.belowA b6)
      have hs5 := BY5.out.lt
      have hs6 := b6.size
      clear b6 t6 p0 p1 p2 p3 r0 r1 r2 r3 BX5 BY5 H5 T5 U5
      obtain ⟨r0, r1, r2, r3⟩ := BY6.out
      simp only [vt] at r0 r1 r2 r3
      have ly := BY6.out.lt
      go_wp2_with fail
      refine (laws_toTerm u k' n' s' A' m' c' _ (U6.out.belowA (by repeat' (first | exact Below.refl _ _ | exact Nat.le_refl _ | (refine Below.alloc ?_ ?_ _) | (refine Below.setCell ?_ ?_ _) | (refine Below.drew ?_) | (refine below_drewN ?_ _) | assumption | (simp; done) | (simp; omega)))) hutot).mono ?_
      rintro e w7 ⟨k7, n7, s7, A7, m7, c7, rfl, t7, b7⟩
      have T7 := Lib.hid t7
      have B7 : Below w6.heap.size w6 w7 := Below.trans (Below.alloc (Below.refl _ _) (Nat.le_refl _) _) (b7.mono (by simp))
      have X7 : Box4 w7 w6.heap.size (vt k6 n6 s6 A6 m6 c6) := Box4.below (Box4.lit rfl) b7
      have TF7 := Lib.hid (TF6.out.belowF B7)
      have H7 := Lib.hid (below_then H6.out B7)
      have BA7 := Lib.hid (BX6.out.below B7)
      have BB7 := Lib.hid (BY6.out.below B7)
      have TA7 := Lib.hid (T6.out.belowA B7)
      have UA7 := Lib.hid (U6.out.belowA B7)
      have BX7 := Lib.hid X7
      have lx := X7.lt
      clear t7 b7 B7 r0 r1 r2 r3 BX6 BY6 H6 T6 U6 TF6 hs5 hs6 ly
      obtain ⟨p0, p1, p2, p3⟩ := X7
      simp only [vt] at p0 p1 p2 p3
      go_wp2_with fail
      refine (impl_SameTerm t u k6 n6 s6 A6 m6 c6 k7 n7 s7 A7 m7 c7 _ 0 ((TF7.out.belowF (by repeat' (first | exact Below.refl _ _ | exact Nat.le_refl _ | (refine Below.alloc ?_ ?_ _) | (refine Below.setCell ?_ ?_ _) | (refine Below.drew ?_) | (refine below_drewN ?_ _) | assumption | (simp; done) | (simp; omega)))).mono (Nat.zero_le _)) ((T7.out.belowF (by repeat' (first | exact Below.refl _ _ | exact Nat.le_refl _ | (refine Below.alloc ?_ ?_ _) | (refine Below.setCell ?_ ?_ _) | (refine Below.drew ?_) | (refine below_drewN ?_ _) | assumption | (simp; done) | (simp; omega)))).mono (Nat.zero_le _))).mono ?_
      rintro e w8 ⟨rfl, b8⟩
      have B8 : Below w7.heap.size w7 w8 := Below.trans (Below.alloc (Below.refl _ _) (Nat.le_refl _) _) (b8.mono (by simp))
      have Y8 : Box4 w8 w7.heap.size (vt k7 n7 s7 A7 m7 c7) := Box4.below (Box4.lit rfl) b8
      have BY8 := Lib.hid Y8
      have BX8 := Lib.hid (BX7.out.below B8)
      have BA8 := Lib.hid (BA7.out.below B8)
      have BB8 := Lib.hid (BB7.out.below B8)
      have TA8 := Lib.hid (TA7.out.belowA B8)
      have UA8 := Lib.hid (UA7.out.belowA B8)
      have TX8 := Lib.hid (TF7.out.any.belowA B8)
      have TY8 := Lib.hid (T7.out.any.belowA B8)
      have H8 := Lib.hid (below_then H7.out B8)
      clear b8 B8 Y8 p0 p1 p2 p3 BX7 BA7 BB7 TA7 UA7 TF7 T7 H7 lx
      have hbb : (sameB t u != sameB t u) = false := by simp
      have st := sameB_yes (rfl : t = t)
      have su := sameB_yes (rfl : u = u)
      obtain ⟨p0, p1, p2, p3⟩ := BA8.out
      obtain ⟨r0, r1, r2, r3⟩ := BX8.out
      simp only [vt] at p0 p1 p2 p3 r0 r1 r2 r3
      go_wp2_with fail
      go_region_held3 (fun w' => w'.cell? ⟨w.heap.size, 0, none⟩ = some (.int .i64 k) ∧ w'.cell? ⟨w.heap.size, 1, none⟩ = some (.int .i64 n) ∧ w'.cell? ⟨w.heap.size, 2, none⟩ = some (.string s) ∧ w'.cell? ⟨w.heap.size, 3, none⟩ = some (.slice A m c) ∧ w'.cell? ⟨w6.heap.size, 0, none⟩ = some (.int .i64 k6) ∧ w'.cell? ⟨w6.heap.size, 1, none⟩ = some (.int .i64 n6) ∧ w'.cell? ⟨w6.heap.size, 2, none⟩ = some (.string s6) ∧ w'.cell? ⟨w6.heap.size, 3, none⟩ = some (.slice A6 m6 c6))
        (first | go_keep | (go_split_ands; refine ⟨?_, ?_, ?_, ?_, ?_, ?_, ?_, ?_⟩ <;> first | exact cell_keep b10 (by assumption) | exact cell_keep b9 (by assumption)))
        (first
          | (go_at_call 53; (with_reducible refine (laws_toTerm t k n s A m c _ (by exact TA8.out.drew) htot).mono ?_); rintro e w9 ⟨k9, n9, s9, A9, m9, c9, rfl, t9, b9⟩)
          | (go_at_call 55; refine (laws_eqTerm t t k6 n6 s6 A6 m6 c6 k9 n9 s9 A9 m9 c9 _ (by exact TX8.out.drew.belowA b9) (by exact t9.any)).mono ?_; rintro e w10 ⟨rfl, b10⟩))
      have b910 : Below w8.heap.size w8 w10 := below_then (Below.trans (Below.refl _ _).drew b9) b10
      have H10 := Lib.hid (below_then H8.out b910)
      have BB10 := Lib.hid (BB8.out.below b910)
      have BY10 := Lib.hid (BY8.out.below b910)
      have UA10 := Lib.hid (UA8.out.belowA b910)
      have TY10 := Lib.hid (TY8.out.belowA b910)
      clear b9 b10 b910 t9 p0 p1 p2 p3 r0 r1 r2 r3 BX8 BA8 BB8 BY8 TA8 UA8 TX8 TY8 H8
      obtain ⟨p0, p1, p2, p3⟩ := BB10.out
      obtain ⟨r0, r1, r2, r3⟩ := BY10.out
      simp only [vt] at p0 p1 p2 p3 r0 r1 r2 r3
      go_wp2_with fail
      go_region_held3 (fun w' => w'.cell? ⟨w.heap.size + 1, 0, none⟩ = some (.int .i64 k') ∧ w'.cell? ⟨w.heap.size + 1, 1, none⟩ = some (.int .i64 n') ∧ w'.cell? ⟨w.heap.size + 1, 2, none⟩ = some (.string s') ∧ w'.cell? ⟨w.heap.size + 1, 3, none⟩ = some (.slice A' m' c') ∧ w'.cell? ⟨w7.heap.size, 0, none⟩ = some (.int .i64 k7) ∧ w'.cell? ⟨w7.heap.size, 1, none⟩ = some (.int .i64 n7) ∧ w'.cell? ⟨w7.heap.size, 2, none⟩ = some (.string s7) ∧ w'.cell? ⟨w7.heap.size, 3, none⟩ = some (.slice A7 m7 c7))
        (first | go_keep | (go_split_ands; refine ⟨?_, ?_, ?_, ?_, ?_, ?_, ?_, ?_⟩ <;> first | exact cell_keep b12 (by assumption) | exact cell_keep b11 (by assumption)))
        (first
          | (go_at_call 53; (with_reducible refine (laws_toTerm u k' n' s' A' m' c' _ (by exact UA10.out.drew) hutot).mono ?_); rintro e w11 ⟨k9, n9, s9, A9, m9, c9, rfl, t11, b11⟩)
          | (go_at_call 55; refine (laws_eqTerm u u k7 n7 s7 A7 m7 c7 k9 n9 s9 A9 m9 c9 _ (by exact TY10.out.drew.belowA b11) (by exact t11.any)).mono ?_; rintro e w12 ⟨rfl, b12⟩))
      have b1112 : Below w10.heap.size w10 w12 := below_then (Below.trans (Below.refl _ _).drew b11) b12
      have H12 := Lib.hid (below_then H10.out b1112)
      clear b11 b12 b1112 t11
      go_wp2_with fail
      go_ret
      exact ⟨rfl, H12.out⟩
end Go.Proofs.Ytbjnagnkekibdaa
