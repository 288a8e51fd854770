/- The law over ProgFault. -/
import Derived.Test.YtkipkincggajcaaFaultR
namespace Go.Proofs.Ytkipkincggajcaa
open Go.RowKit
set_option linter.unusedVariables false

set_option maxHeartbeats 1600000 in
theorem law_ProgFault (v : Value) (p : Pg) (w : World) (o : IsProg w v p) :
    Calls Try.prog 11 #[v] w fun e w' => e = .returned (.bool true) ∧ Below w.heap.size w w' := by
  obtain ⟨x, rfl, hp⟩ := o
  have HP := Lib.hid hp
  clear hp
  by_cases h1 : (1048576 : Int) - (totPg p : Int) < 0
  · have C1 := Lib.hid (cut0_neg h1)
    unfold V3.val
    go_enter Try.func11, Try.ntmps11
    go_wp2_with fail
    refine (laws_szProg p x _ 1048576 (HP.out.belowA (by repeat' (first | exact Below.refl _ _ | exact Nat.le_refl _ | (refine Below.alloc ?_ ?_ _) | (refine Below.setCell ?_ ?_ _) | (refine Below.drew ?_) | (refine below_drewN ?_ _) | assumption | (simp; done) | (simp; omega)))) (by omega) (by omega)).mono ?_
    rintro e w1 ⟨rfl, b1⟩
    have B1 : Hid (Below w.heap.size w w1) := Lib.hid (Below.trans (by repeat' (first | exact Below.refl _ _ | exact Nat.le_refl _ | (refine Below.alloc ?_ ?_ _) | (refine Below.setCell ?_ ?_ _) | (refine Below.drew ?_) | (refine below_drewN ?_ _) | assumption | (simp; done) | (simp; omega))) (b1.mono (by simp)))
    rw [C1.out]
    clear b1
    go_wp2_with fail
    go_ret
    exact ⟨rfl, B1.out⟩
  have C1 := Lib.hid (cut0_pos (n := (1048576 : Int) - (totPg p : Int)) (by omega))
  have htot : totPg p ≤ 1048576 := by omega
  have h1' : 0 ≤ (1048576 : Int) - (totPg p : Int) := by omega
  unfold V3.val
  go_enter Try.func11, Try.ntmps11
  go_wp2_with fail
  refine (laws_szProg p x _ 1048576 (HP.out.belowA (by repeat' (first | exact Below.refl _ _ | exact Nat.le_refl _ | (refine Below.alloc ?_ ?_ _) | (refine Below.setCell ?_ ?_ _) | (refine Below.drew ?_) | (refine below_drewN ?_ _) | assumption | (simp; done) | (simp; omega)))) (by omega) (by omega)).mono ?_
  rintro e w1 ⟨rfl, b1⟩
  have H1 : Hid (Below w.heap.size w w1) := Lib.hid (Below.trans (by repeat' (first | exact Below.refl _ _ | exact Nat.le_refl _ | (refine Below.alloc ?_ ?_ _) | (refine Below.setCell ?_ ?_ _) | (refine Below.drew ?_) | (refine below_drewN ?_ _) | assumption | (simp; done) | (simp; omega))) (b1.mono (by simp)))
  have BX1 : Hid (BoxB w1 w.heap.size [.slice x.gA p.globals.length x.gc, .slice x.lA p.locks.length x.lc, .slice x.pA p.procs.length x.pc]) := Lib.hid (BoxB.below (BoxB.lit rfl) b1)
  rw [C1.out]
  clear b1
  have p0 := BX1.out 0 _ rfl
  have p1 := BX1.out 1 _ rfl
  have p2 := BX1.out 2 _ rfl
  go_wp2_with fail
  refine (laws_toProg p x _ (HP.out.belowA H1.out) htot).mono ?_
  rintro e w2 ⟨x2, rfl, o2, b2⟩
  have T2 := Lib.hid o2.any
  have H2 := Lib.hid (below_then H1.out b2)
  have BX2 := Lib.hid (BX1.out.below b2)
  clear b2 o2 p0 p1 p2 BX1 H1
  go_wp2_with fail
  refine (spec_ProgFault p x2 _ T2.out htot).mono ?_
  rintro e w3 ⟨rfl, b3⟩
  have H3 := Lib.hid (below_then H2.out b3)
  have BX3 := Lib.hid (BX2.out.below b3)
  clear b3 BX2 H2 T2
  have p0 := BX3.out 0 _ rfl
  have p1 := BX3.out 1 _ rfl
  have p2 := BX3.out 2 _ rfl
  go_wp2_with fail
  refine (laws_toProg p x _ (HP.out.belowA H3.out) htot).mono ?_
  rintro e w4 ⟨x4, rfl, o4, b4⟩
  have T4 := Lib.hid o4.any
  have H4 := Lib.hid (below_then H3.out b4)
  have BX4 := Lib.hid (BX3.out.below b4)
  clear b4 o4 p0 p1 p2 BX3 H3
  unfold V3.val
  go_wp2_with fail
  refine (impl_ProgFault p x4 _ (T4.out.belowA (by repeat' (first | exact Below.refl _ _ | exact Nat.le_refl _ | (refine Below.alloc ?_ ?_ _) | (refine Below.setCell ?_ ?_ _) | (refine Below.drew ?_) | (refine below_drewN ?_ _) | assumption | (simp; done) | (simp; omega)))) htot).mono ?_
  rintro e w5 ⟨rfl, b5⟩
  have B5 : Below w4.heap.size w4 w5 := Below.trans (Below.alloc (Below.refl _ _) (Nat.le_refl _) _) (b5.mono (by simp))
  have BY5 : Hid (BoxB w5 w4.heap.size [.slice x4.gA p.globals.length x4.gc, .slice x4.lA p.locks.length x4.lc, .slice x4.pA p.procs.length x4.pc]) := Lib.hid (BoxB.below (BoxB.lit rfl) b5)
  have BX5 := Lib.hid (BX4.out.below B5)
  have T5 := Lib.hid (T4.out.belowA B5)
  have H5 := Lib.hid (below_then H4.out B5)
  have P5 := Lib.hid (HP.out.belowA H5.out)
  have hne : (faultR p != faultR p) = false := by simp
  have st : decB (p = p) = true := decB_yes rfl
  clear b5 B5 BX4 H4 T4
  have p0 := BX5.out 0 _ rfl
  have p1 := BX5.out 1 _ rfl
  have p2 := BX5.out 2 _ rfl
  have r0 := BY5.out 0 _ rfl
  have r1 := BY5.out 1 _ rfl
  have r2 := BY5.out 2 _ rfl
  go_wp2_with fail
  go_region_held3 (fun w' => w'.cell? ⟨w.heap.size, 0, none⟩ = some (.slice x.gA p.globals.length x.gc) ∧ w'.cell? ⟨w.heap.size, 1, none⟩ = some (.slice x.lA p.locks.length x.lc) ∧ w'.cell? ⟨w.heap.size, 2, none⟩ = some (.slice x.pA p.procs.length x.pc) ∧ w'.cell? ⟨w4.heap.size, 0, none⟩ = some (.slice x4.gA p.globals.length x4.gc) ∧ w'.cell? ⟨w4.heap.size, 1, none⟩ = some (.slice x4.lA p.locks.length x4.lc) ∧ w'.cell? ⟨w4.heap.size, 2, none⟩ = some (.slice x4.pA p.procs.length x4.pc))
    (first | go_keep | (go_split_ands; refine ⟨?_, ?_, ?_, ?_, ?_, ?_⟩ <;> first | exact cell_keep b10 (by assumption) | exact cell_keep b9 (by assumption)))
    (first
      | (go_at_call 33; (refine (laws_toProg p x _ (by exact P5.out.drew) htot).mono ?_); rintro e w9 ⟨x9, rfl, o9, b9⟩; unfold V3.val)
      | (go_at_call 35; refine (laws_eqProg p p x4 x9 _ (by exact T5.out.drew.belowA b9) (by exact o9.any)).mono ?_; rintro e w10 ⟨rfl, b10⟩))
  have b910 : Below w5.heap.size w5 w10 := below_then (Below.trans (Below.refl _ _).drew b9) b10
  have H10 := Lib.hid (below_then H5.out b910)
  clear b9 b10 b910 o9
  go_wp2_with fail
  go_ret
  exact ⟨rfl, H10.out⟩
end Go.Proofs.Ytkipkincggajcaa
