/- The law of InsLine. -/
import Derived.Test.YtefcdpkficojgaaDoorLineS
import Derived.Test.YtefcdpkficojgaaDoorLineI
import Derived.Test.YtefcdpkficojgaaDoorCdTo
import Derived.Test.YtefcdpkficojgaaDoorCdSz
namespace Go.Proofs.YtefcdpkficojgaaDoor
open Go.RowKit
set_option linter.unusedVariables false

set_option maxHeartbeats 1600000 in
set_option maxRecDepth 100000 in
theorem law_InsLine (v : Value) (p : Cd) (a : Int) (w : World) (o : IsCode w v p) (_ha : (Lit.int .i64 a).wf = true) (tab : TabW w) :
    Calls Tryd.prog 7 #[v, .int .i64 a] w fun e w' => e = .returned (.bool true) ∧ Below w.heap.size w w' := by
  obtain ⟨⟨gA, gc, lA, lc, pA, pc, eA, ec, iA, ic⟩, rfl, hp⟩ := o
  have HP := Lib.hid hp
  have TB := Lib.hid tab
  clear tab
  clear hp
  unfold V5.val
  simp only
  by_cases h1 : (1048576 : Int) - (totCd p : Int) < 0
  · have C1 := Lib.hid (cut0_neg h1)
    go_enter Tryd.func7, Tryd.ntmps7
    go_wp2_with fail
    refine (laws_szCode p ⟨gA, gc, lA, lc, pA, pc, eA, ec, iA, ic⟩ _ 1048576 (HP.out.belowA (by repeat' (first | exact Below.refl _ _ | exact Nat.le_refl _ | (refine Below.alloc ?_ ?_ _) | (refine Below.setCell ?_ ?_ _) | (refine Below.drew ?_) | (refine below_drewN ?_ _) | assumption | (simp; done) | (simp; omega)))) (by omega) (by omega)).mono ?_
    rintro e w1 ⟨rfl, b1⟩
    have B1 : Hid (Below w.heap.size w w1) := Lib.hid (Below.trans (by repeat' (first | exact Below.refl _ _ | exact Nat.le_refl _ | (refine Below.alloc ?_ ?_ _) | (refine Below.setCell ?_ ?_ _) | (refine Below.drew ?_) | (refine below_drewN ?_ _) | assumption | (simp; done) | (simp; omega))) (b1.mono (by simp)))
    clear b1
    rw [C1.out]
    go_wp2_with fail
    go_ret
    exact ⟨rfl, B1.out⟩
  have C1 := Lib.hid (cut0_pos (n := (1048576 : Int) - (totCd p : Int)) (by omega))
  have htot : totCd p ≤ 1048576 := by omega
  have h1' : 0 ≤ (1048576 : Int) - (totCd p : Int) := by omega
  go_enter Tryd.func7, Tryd.ntmps7
  go_wp2_with fail
  refine (laws_szCode p ⟨gA, gc, lA, lc, pA, pc, eA, ec, iA, ic⟩ _ 1048576 (HP.out.belowA (by repeat' (first | exact Below.refl _ _ | exact Nat.le_refl _ | (refine Below.alloc ?_ ?_ _) | (refine Below.setCell ?_ ?_ _) | (refine Below.drew ?_) | (refine below_drewN ?_ _) | assumption | (simp; done) | (simp; omega)))) (by omega) (by omega)).mono ?_
  rintro e w1 ⟨rfl, b1⟩
  have B1 : Hid (Below w.heap.size w w1) := Lib.hid (Below.trans (by repeat' (first | exact Below.refl _ _ | exact Nat.le_refl _ | (refine Below.alloc ?_ ?_ _) | (refine Below.setCell ?_ ?_ _) | (refine Below.drew ?_) | (refine below_drewN ?_ _) | assumption | (simp; done) | (simp; omega))) (b1.mono (by simp)))
  have BX1 := Lib.hid ((Box5.new w ⟨gA, gc, lA, lc, pA, pc, eA, ec, iA, ic⟩ p 54).below b1)
  clear b1
  rw [C1.out]
  obtain ⟨p0, p1, p2, p3, p4⟩ := BX1.out
  simp only at p0 p1 p2 p3 p4
  go_wp2_with fail
  refine (laws_toCode p ⟨gA, gc, lA, lc, pA, pc, eA, ec, iA, ic⟩ _ (HP.out.belowA B1.out) htot).mono ?_
  rintro e w2 ⟨⟨gA2, gc2, lA2, lc2, pA2, pc2, eA2, ec2, iA2, ic2⟩, rfl, t2, b2⟩
  have T2 := Lib.hid t2
  have B2 := Lib.hid (below_then B1.out b2)
  have BX2 := Lib.hid (BX1.out.below b2)
  clear b2 t2 p0 p1 p2 p3 p4 BX1
  unfold V5.val
  simp only
  go_wp2_with fail
  refine (spec_InsLine p ⟨gA2, gc2, lA2, lc2, pA2, pc2, eA2, ec2, iA2, ic2⟩ _ T2.out htot a).mono ?_
  rintro e w3 ⟨rfl, b3⟩
  have B3 := Lib.hid (below_then B2.out b3)
  have BX3 := Lib.hid (BX2.out.below b3)
  clear b3 BX2
  obtain ⟨p0, p1, p2, p3, p4⟩ := BX3.out
  simp only at p0 p1 p2 p3 p4
  go_wp2_with fail
  refine (laws_toCode p ⟨gA, gc, lA, lc, pA, pc, eA, ec, iA, ic⟩ _ (HP.out.belowA B3.out) htot).mono ?_
  rintro e w4 ⟨⟨gA4, gc4, lA4, lc4, pA4, pc4, eA4, ec4, iA4, ic4⟩, rfl, t4, b4⟩
  have T4 := Lib.hid t4
  have B4 := Lib.hid (below_then B3.out b4)
  have BX4 := Lib.hid (BX3.out.below b4)
  clear b4 t4 p0 p1 p2 p3 p4 BX3
  unfold V5.val
  simp only
  go_wp2_with fail
  refine (impl_InsLine p ⟨gA4, gc4, lA4, lc4, pA4, pc4, eA4, ec4, iA4, ic4⟩ _ (T4.out.belowA (by repeat' (first | exact Below.refl _ _ | exact Nat.le_refl _ | (refine Below.alloc ?_ ?_ _) | (refine Below.setCell ?_ ?_ _) | (refine Below.drew ?_) | (refine below_drewN ?_ _) | assumption | (simp; done) | (simp; omega)))) htot a (TB.out.below (below_then B4.out (by repeat' (first | exact Below.refl _ _ | exact Nat.le_refl _ | (refine Below.alloc ?_ ?_ _) | (refine Below.setCell ?_ ?_ _) | (refine Below.drew ?_) | (refine below_drewN ?_ _) | assumption | (simp; done) | (simp; omega)))))).mono ?_
  rintro e w5 ⟨rfl, b5⟩
  have B5 : Below w4.heap.size w4 w5 := Below.trans (Below.alloc (Below.refl _ _) (Nat.le_refl _) _) (b5.mono (by simp))
  have BY5 := Lib.hid ((Box5.new w4 ⟨gA4, gc4, lA4, lc4, pA4, pc4, eA4, ec4, iA4, ic4⟩ p 59).below b5)
  have BX5 := Lib.hid (BX4.out.below B5)
  have TY5 := Lib.hid (T4.out.belowA B5)
  have H5 := Lib.hid (below_then B4.out B5)
  clear b5 B5 BX4
  have hbb : ((⟨(lineR p a).toArray⟩ : ByteArray).toList != (⟨(lineR p a).toArray⟩ : ByteArray).toList) = false := by simp
  generalize (⟨(lineR p a).toArray⟩ : ByteArray) = LN at *
  obtain ⟨p0, p1, p2, p3, p4⟩ := BX5.out
  obtain ⟨r0, r1, r2, r3, r4⟩ := BY5.out
  simp only at p0 p1 p2 p3 p4 r0 r1 r2 r3 r4
  have dd : decP (p = p) = true := decP_yes rfl
  go_wp2_with fail
  go_region_held3 (fun w' => w'.cell? ⟨w.heap.size, 0, none⟩ = some (.slice gA p.globals.length gc) ∧ w'.cell? ⟨w.heap.size, 1, none⟩ = some (.slice lA p.locks.length lc) ∧ w'.cell? ⟨w.heap.size, 2, none⟩ = some (.slice pA p.procs.length pc) ∧ w'.cell? ⟨w.heap.size, 3, none⟩ = some (.slice eA p.entry.length ec) ∧ w'.cell? ⟨w.heap.size, 4, none⟩ = some (.slice iA p.ins.length ic) ∧ w'.cell? ⟨w4.heap.size, 0, none⟩ = some (.slice gA4 p.globals.length gc4) ∧ w'.cell? ⟨w4.heap.size, 1, none⟩ = some (.slice lA4 p.locks.length lc4) ∧ w'.cell? ⟨w4.heap.size, 2, none⟩ = some (.slice pA4 p.procs.length pc4) ∧ w'.cell? ⟨w4.heap.size, 3, none⟩ = some (.slice eA4 p.entry.length ec4) ∧ w'.cell? ⟨w4.heap.size, 4, none⟩ = some (.slice iA4 p.ins.length ic4))
    (first | go_keep | (go_split_ands; refine ⟨?_, ?_, ?_, ?_, ?_, ?_, ?_, ?_, ?_, ?_⟩ <;> first | exact cell_keep b10 (by assumption) | exact cell_keep b9 (by assumption)))
    (first
      | (go_at_call 37; refine (laws_toCode p ⟨gA, gc, lA, lc, pA, pc, eA, ec, iA, ic⟩ _ (by exact (HP.out.belowA H5.out).belowA (Below.refl _ _).drew) htot).mono ?_; rintro e w9 ⟨⟨gA9, gc9, lA9, lc9, pA9, pc9, eA9, ec9, iA9, ic9⟩, rfl, t9, b9⟩)
      | (go_at_call 39; refine (laws_eqCode p p ⟨gA4, gc4, lA4, lc4, pA4, pc4, eA4, ec4, iA4, ic4⟩ ⟨gA9, gc9, lA9, lc9, pA9, pc9, eA9, ec9, iA9, ic9⟩ _ (by exact (TY5.out.belowA (Below.refl _ _).drew).belowA b9) (by exact t9)).mono ?_; rintro e w10 ⟨rfl, b10⟩))
  have b910 : Below w5.heap.size w5 w10 := below_then (Below.trans (Below.refl _ _).drew b9) b10
  have H10 := Lib.hid (below_then H5.out b910)
  clear b9 b10 b910 t9
  go_wp2_with fail
  go_ret
  exact ⟨rfl, H10.out⟩
end Go.Proofs.YtefcdpkficojgaaDoor
