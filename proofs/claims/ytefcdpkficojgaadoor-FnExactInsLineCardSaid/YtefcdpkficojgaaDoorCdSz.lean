/- Measuring codes. -/
import Derived.Test.YtefcdpkficojgaaDoorCdIs
import Derived.Test.YtefcdpkficojgaaDoorLater
namespace Go.Proofs.YtefcdpkficojgaaDoor
open Go.RowKit
set_option linter.unusedVariables false

set_option maxHeartbeats 800000 in
theorem laws_szIns (p : Ic) (x : V7) (w : World) (left : Int) (hp : IcIs AnyB w x p) (h0 : 0 ≤ left) (h1 : left ≤ 1048576) :
    Calls Tryd.prog 154 #[.agg #[.int .i64 x.op, .int .i64 x.arg, .int .i64 x.k, .int .i64 x.n, .string x.s, .slice x.A x.m x.c, .int .i64 x.to], .int .i64 left] w fun e w' => e = .returned (.int .i64 (cut0 (left - (totT p.term : Int)))) ∧ Below w.heap.size w w' := by
  obtain ⟨op, arg, k, n, s, A, m, c, to⟩ := x
  obtain ⟨_, _, _, _, _, _, ht⟩ := hp
  simp only [V7.term] at ht
  simp only
  generalize p.term = t at *
  have HT := Lib.hid ht
  clear ht
  by_cases g3 : left - (totT t : Int) < 0
  · have C2 := Lib.hid (cut0_neg g3)
    go_enter Tryd.func154, Tryd.ntmps154
    go_wp2_with fail
    refine (laws_szTerm t k n s A m c _ _ (HT.out.belowA (by repeat' (first | exact Below.refl _ _ | exact Nat.le_refl _ | (refine Below.alloc ?_ ?_ _) | (refine Below.setCell ?_ ?_ _) | (refine Below.drew ?_) | (refine below_drewN ?_ _) | assumption | (simp; done) | (simp; omega)))) (by omega) (by omega)).mono ?_
    rintro e w1 ⟨rfl, b1⟩
    have B1 : Hid (Below w.heap.size w w1) := Lib.hid (Below.trans (by repeat' (first | exact Below.refl _ _ | exact Nat.le_refl _ | (refine Below.alloc ?_ ?_ _) | (refine Below.setCell ?_ ?_ _) | (refine Below.drew ?_) | (refine below_drewN ?_ _) | assumption | (simp; done) | (simp; omega))) (b1.mono (by simp)))
    rw [C2.out]
    clear b1
    go_wp2_with fail
    go_ret
    exact ⟨ret_int C2.out.symm, B1.out⟩
  · have C2 := Lib.hid (cut0_pos (n := left - (totT t : Int)) (by omega))
    have g4 : 0 ≤ left - (totT t : Int) := by omega
    clear g3
    go_enter Tryd.func154, Tryd.ntmps154
    go_wp2_with fail
    refine (laws_szTerm t k n s A m c _ _ (HT.out.belowA (by repeat' (first | exact Below.refl _ _ | exact Nat.le_refl _ | (refine Below.alloc ?_ ?_ _) | (refine Below.setCell ?_ ?_ _) | (refine Below.drew ?_) | (refine below_drewN ?_ _) | assumption | (simp; done) | (simp; omega)))) (by omega) (by omega)).mono ?_
    rintro e w1 ⟨rfl, b1⟩
    have B1 : Hid (Below w.heap.size w w1) := Lib.hid (Below.trans (by repeat' (first | exact Below.refl _ _ | exact Nat.le_refl _ | (refine Below.alloc ?_ ?_ _) | (refine Below.setCell ?_ ?_ _) | (refine Below.drew ?_) | (refine below_drewN ?_ _) | assumption | (simp; done) | (simp; omega))) (b1.mono (by simp)))
    rw [C2.out]
    clear b1
    go_wp2_with fail
    go_ret
    exact ⟨ret_int C2.out.symm, B1.out⟩
set_option maxHeartbeats 800000 in
theorem laws_szInsS (l : List Ic) (A : Option Addr) (c : Nat) (w : World) (left : Int) (row : IcRow AnyB w A l) (hl : l.length ≤ c) (hc : c ≤ maxLen) (h0 : 0 ≤ left) (h1 : left ≤ 1048576) :
    Calls Tryd.prog 87 #[.slice A l.length c, .int .i64 left] w fun e w' => e = .returned (.int .i64 (cut0 (left - (totIs l : Int)))) ∧ Below w.heap.size w w' := by
  unfold maxLen at hc
  have RW := Lib.hid row
  have hlen := totIs_len l
  clear row
  by_cases g0 : left - (l.length : Int) < 0
  · have C := Lib.hid (cut0_neg (n := left - (totIs l : Int)) (by omega))
    go_enter Tryd.func87, Tryd.ntmps87
    go_wp2_with fail
    go_ret
    exact ⟨ret_int C.out.symm, Below.refl _ _⟩
  have g1 : 0 ≤ left - (l.length : Int) := by omega
  go_enter Tryd.func87, Tryd.ntmps87
  go_wp2_with fail
  go_loopw [1, 5] (fun m i wr => ∃ k : Nat, k ≤ l.length ∧ i = .int .i64 k ∧ (∃ z : Int, 0 ≤ z ∧ z ≤ 1048576 ∧ m = .int .i64 z ∧ Hid (z = left - (l.length : Int) - ((totIs (l.take k) : Int) - (k : Int)))) ∧ Below w.heap.size w wr) (fun _ i _ => l.length - (intOf i).toNat)
  case atStart => exact ⟨0, Nat.zero_le _, rfl, ⟨_, g1, by omega, rfl, Lib.hid (by simp [totIs])⟩, Below.refl _ _⟩
  case round =>
    obtain ⟨k, hk, rfl, ⟨z, hz0, hz1, rfl, HZ⟩, hb⟩ := hrel
    have HB := Lib.hid hb
    clear hb
    by_cases hlt : k < l.length
    · obtain ⟨b, off, x, rfl, _, ⟨d0, d1, d2, d3, d4, d5, d6⟩, hp⟩ := rd_ins (RW.out.belowA HB.out) hlt
      have HP := Lib.hid hp
      have h0k : (0 : Int) ≤ (k : Int) := by omega
      have ht := totIs_take l k hlt
      have hd := totIs_drop l (k + 1) hlt
      have hz := HZ.out
      clear hp
      by_cases g : z - (totT l[k].term : Int) < 0
      · have C := Lib.hid (cut0_neg (n := left - (totIs l : Int)) (by omega))
        have C2 := Lib.hid (cut0_neg g)
        clear ht hd hz
        go_wp2_with fail
        refine (laws_szIns l[k] x _ z HP.out hz0 hz1).mono ?_
        rintro e w1 ⟨rfl, b1⟩
        have B1 := Lib.hid (below_then HB.out b1)
        rw [C2.out]
        clear b1
        go_wp2_with fail
        go_ret
        exact ⟨ret_int C.out.symm, B1.out⟩
      · have C2 := Lib.hid (cut0_pos (n := z - (totT l[k].term : Int)) (by omega))
        have g' : 0 ≤ z - (totT l[k].term : Int) := by omega
        have HN : Hid (z - (totT l[k].term : Int) = left - (l.length : Int) - ((totIs (l.take (k + 1)) : Int) - ((k + 1 : Nat) : Int))) := Lib.hid (by omega)
        clear ht hd hz g
        go_wp2_with fail
        refine (laws_szIns l[k] x _ z HP.out hz0 hz1).mono ?_
        rintro e w1 ⟨rfl, b1⟩
        have B1 := Lib.hid (below_then HB.out b1)
        rw [C2.out]
        clear b1
        go_wp2_with fail
        go_roundw
        case rel => exact ⟨k + 1, by omega, by go_num, ⟨_, g', by omega, rfl, Lib.hid HN.out⟩, B1.out⟩
        case measure => simp [intOf]; omega
    · have hz := HZ.out
      rw [List.take_of_length_le (by omega)] at hz
      have C := Lib.hid (cut0_pos (n := left - (totIs l : Int)) (by omega))
      have HE : Hid (z = left - (totIs l : Int)) := Lib.hid (by omega)
      clear hz
      go_wp2_with fail
      go_ret
      exact ⟨ret_int (by rw [C.out, HE.out]), HB.out⟩
set_option maxHeartbeats 1600000 in
theorem laws_szCode (p : Cd) (x : V5) (w : World) (left : Int) (hp : CdIs w x p) (h0 : 0 ≤ left) (h1 : left ≤ 1048576) :
    Calls Tryd.prog 35 #[x.val p, .int .i64 left] w fun e w' => e = .returned (.int .i64 (cut0 (left - (totCd p : Int)))) ∧ Below w.heap.size w w' := by
  obtain ⟨gs, ls, ps, es, is⟩ := p
  obtain ⟨gA, gc, lA, lc, pA, pc, eA, ec, iA, ic⟩ := x
  have HP := Lib.hid hp
  have hpc := hp.i2
  have hpl := hp.i1
  simp only at hpc hpl
  have ht : (totCd ⟨gs, ls, ps, es, is⟩ : Int) = (totS gs : Int) + (totS ls : Int) + (totS ps : Int) + (es.length : Int) + (totIs is : Int) := by simp [totCd]
  unfold V5.val
  simp only
  clear hp
  by_cases g1 : left - (totS gs : Int) < 0
  · have C := Lib.hid (cut0_neg (n := left - (totCd ⟨gs, ls, ps, es, is⟩ : Int)) (by omega))
    have C1 := Lib.hid (cut0_neg g1)
    clear ht
    go_enter Tryd.func35, Tryd.ntmps35
    go_wp2_with fail
    refine (laws_szStringS _ gs _ _ (HP.out.gs.below (by repeat' (first | exact Below.refl _ _ | exact Nat.le_refl _ | (refine Below.alloc ?_ ?_ _) | (refine Below.setCell ?_ ?_ _) | (refine Below.drew ?_) | (refine below_drewN ?_ _) | assumption | (simp; done) | (simp; omega)))) HP.out.g4 h0 h1).mono ?_
    rintro e w1 ⟨rfl, rfl⟩
    rw [C1.out]
    go_wp2_with fail
    go_ret
    exact ⟨ret_int C.out.symm, (by repeat' (first | exact Below.refl _ _ | exact Nat.le_refl _ | (refine Below.alloc ?_ ?_ _) | (refine Below.setCell ?_ ?_ _) | (refine Below.drew ?_) | (refine below_drewN ?_ _) | assumption | (simp; done) | (simp; omega)))⟩
  have C1 := Lib.hid (cut0_pos (n := left - (totS gs : Int)) (by omega))
  have g1' : 0 ≤ left - (totS gs : Int) := by omega
  by_cases g2 : left - (totS gs : Int) - (totS ls : Int) < 0
  · have C := Lib.hid (cut0_neg (n := left - (totCd ⟨gs, ls, ps, es, is⟩ : Int)) (by omega))
    have C2 := Lib.hid (cut0_neg g2)
    clear ht g1
    go_enter Tryd.func35, Tryd.ntmps35
    go_wp2_with fail
    refine (laws_szStringS _ gs _ _ (HP.out.gs.below (by repeat' (first | exact Below.refl _ _ | exact Nat.le_refl _ | (refine Below.alloc ?_ ?_ _) | (refine Below.setCell ?_ ?_ _) | (refine Below.drew ?_) | (refine below_drewN ?_ _) | assumption | (simp; done) | (simp; omega)))) HP.out.g4 h0 h1).mono ?_
    rintro e w1 ⟨rfl, rfl⟩
    rw [C1.out]
    go_wp2_with fail
    refine (laws_szStringS _ ls _ _ (HP.out.ls.below (by repeat' (first | exact Below.refl _ _ | exact Nat.le_refl _ | (refine Below.alloc ?_ ?_ _) | (refine Below.setCell ?_ ?_ _) | (refine Below.drew ?_) | (refine below_drewN ?_ _) | assumption | (simp; done) | (simp; omega)))) HP.out.l4 (by omega) (by omega)).mono ?_
    rintro e w1 ⟨rfl, rfl⟩
    rw [C2.out]
    go_wp2_with fail
    go_ret
    exact ⟨ret_int C.out.symm, (by repeat' (first | exact Below.refl _ _ | exact Nat.le_refl _ | (refine Below.alloc ?_ ?_ _) | (refine Below.setCell ?_ ?_ _) | (refine Below.drew ?_) | (refine below_drewN ?_ _) | assumption | (simp; done) | (simp; omega)))⟩
  have C2 := Lib.hid (cut0_pos (n := left - (totS gs : Int) - (totS ls : Int)) (by omega))
  have g2' : 0 ≤ left - (totS gs : Int) - (totS ls : Int) := by omega
  by_cases g3 : left - (totS gs : Int) - (totS ls : Int) - (totS ps : Int) < 0
  · have C := Lib.hid (cut0_neg (n := left - (totCd ⟨gs, ls, ps, es, is⟩ : Int)) (by omega))
    have C3 := Lib.hid (cut0_neg g3)
    clear ht g1 g2
    go_enter Tryd.func35, Tryd.ntmps35
    go_wp2_with fail
    refine (laws_szStringS _ gs _ _ (HP.out.gs.below (by repeat' (first | exact Below.refl _ _ | exact Nat.le_refl _ | (refine Below.alloc ?_ ?_ _) | (refine Below.setCell ?_ ?_ _) | (refine Below.drew ?_) | (refine below_drewN ?_ _) | assumption | (simp; done) | (simp; omega)))) HP.out.g4 h0 h1).mono ?_
    rintro e w1 ⟨rfl, rfl⟩
    rw [C1.out]
    go_wp2_with fail
    refine (laws_szStringS _ ls _ _ (HP.out.ls.below (by repeat' (first | exact Below.refl _ _ | exact Nat.le_refl _ | (refine Below.alloc ?_ ?_ _) | (refine Below.setCell ?_ ?_ _) | (refine Below.drew ?_) | (refine below_drewN ?_ _) | assumption | (simp; done) | (simp; omega)))) HP.out.l4 (by omega) (by omega)).mono ?_
    rintro e w1 ⟨rfl, rfl⟩
    rw [C2.out]
    go_wp2_with fail
    refine (laws_szStringS _ ps _ _ (HP.out.ps.below (by repeat' (first | exact Below.refl _ _ | exact Nat.le_refl _ | (refine Below.alloc ?_ ?_ _) | (refine Below.setCell ?_ ?_ _) | (refine Below.drew ?_) | (refine below_drewN ?_ _) | assumption | (simp; done) | (simp; omega)))) HP.out.p4 (by omega) (by omega)).mono ?_
    rintro e w1 ⟨rfl, rfl⟩
    rw [C3.out]
    go_wp2_with fail
    go_ret
    exact ⟨ret_int C.out.symm, (by repeat' (first | exact Below.refl _ _ | exact Nat.le_refl _ | (refine Below.alloc ?_ ?_ _) | (refine Below.setCell ?_ ?_ _) | (refine Below.drew ?_) | (refine below_drewN ?_ _) | assumption | (simp; done) | (simp; omega)))⟩
  have C3 := Lib.hid (cut0_pos (n := left - (totS gs : Int) - (totS ls : Int) - (totS ps : Int)) (by omega))
  have g3' : 0 ≤ left - (totS gs : Int) - (totS ls : Int) - (totS ps : Int) := by omega
  by_cases g4 : left - (totS gs : Int) - (totS ls : Int) - (totS ps : Int) - (es.length : Int) < 0
  · have C := Lib.hid (cut0_neg (n := left - (totCd ⟨gs, ls, ps, es, is⟩ : Int)) (by omega))
    have C4 := Lib.hid (cut0_neg g4)
    clear ht g1 g2 g3
    go_enter Tryd.func35, Tryd.ntmps35
    go_wp2_with fail
    refine (laws_szStringS _ gs _ _ (HP.out.gs.below (by repeat' (first | exact Below.refl _ _ | exact Nat.le_refl _ | (refine Below.alloc ?_ ?_ _) | (refine Below.setCell ?_ ?_ _) | (refine Below.drew ?_) | (refine below_drewN ?_ _) | assumption | (simp; done) | (simp; omega)))) HP.out.g4 h0 h1).mono ?_
    rintro e w1 ⟨rfl, rfl⟩
    rw [C1.out]
    go_wp2_with fail
    refine (laws_szStringS _ ls _ _ (HP.out.ls.below (by repeat' (first | exact Below.refl _ _ | exact Nat.le_refl _ | (refine Below.alloc ?_ ?_ _) | (refine Below.setCell ?_ ?_ _) | (refine Below.drew ?_) | (refine below_drewN ?_ _) | assumption | (simp; done) | (simp; omega)))) HP.out.l4 (by omega) (by omega)).mono ?_
    rintro e w1 ⟨rfl, rfl⟩
    rw [C2.out]
    go_wp2_with fail
    refine (laws_szStringS _ ps _ _ (HP.out.ps.below (by repeat' (first | exact Below.refl _ _ | exact Nat.le_refl _ | (refine Below.alloc ?_ ?_ _) | (refine Below.setCell ?_ ?_ _) | (refine Below.drew ?_) | (refine below_drewN ?_ _) | assumption | (simp; done) | (simp; omega)))) HP.out.p4 (by omega) (by omega)).mono ?_
    rintro e w1 ⟨rfl, rfl⟩
    rw [C3.out]
    go_wp2_with fail
    refine (laws_szIntS _ es _ _ (HP.out.es.below (by repeat' (first | exact Below.refl _ _ | exact Nat.le_refl _ | (refine Below.alloc ?_ ?_ _) | (refine Below.setCell ?_ ?_ _) | (refine Below.drew ?_) | (refine below_drewN ?_ _) | assumption | (simp; done) | (simp; omega)))) (by omega) (by omega)).mono ?_
    rintro e w1 ⟨rfl, rfl⟩
    rw [C4.out]
    go_wp2_with fail
    go_ret
    exact ⟨ret_int C.out.symm, (by repeat' (first | exact Below.refl _ _ | exact Nat.le_refl _ | (refine Below.alloc ?_ ?_ _) | (refine Below.setCell ?_ ?_ _) | (refine Below.drew ?_) | (refine below_drewN ?_ _) | assumption | (simp; done) | (simp; omega)))⟩
  have C4 := Lib.hid (cut0_pos (n := left - (totS gs : Int) - (totS ls : Int) - (totS ps : Int) - (es.length : Int)) (by omega))
  have g4' : 0 ≤ left - (totS gs : Int) - (totS ls : Int) - (totS ps : Int) - (es.length : Int) := by omega
  generalize hq : left - (totS gs : Int) - (totS ls : Int) - (totS ps : Int) - (es.length : Int) = q at *
  have hql : q ≤ 1048576 := by omega
  have HQ : Hid (left - (totCd ⟨gs, ls, ps, es, is⟩ : Int) = q - (totIs is : Int)) := Lib.hid (by omega)
  clear ht g1 g2 g3 g4
  by_cases g5 : q - (totIs is : Int) < 0
  · have C5 := Lib.hid (cut0_neg g5)
    have HQq := Lib.hid hq
    clear g5 hq
    go_enter Tryd.func35, Tryd.ntmps35
    go_wp2_with fail
    refine (laws_szStringS _ gs _ _ (HP.out.gs.below (by repeat' (first | exact Below.refl _ _ | exact Nat.le_refl _ | (refine Below.alloc ?_ ?_ _) | (refine Below.setCell ?_ ?_ _) | (refine Below.drew ?_) | (refine below_drewN ?_ _) | assumption | (simp; done) | (simp; omega)))) HP.out.g4 h0 h1).mono ?_
    rintro e w1 ⟨rfl, rfl⟩
    rw [C1.out]
    go_wp2_with fail
    refine (laws_szStringS _ ls _ _ (HP.out.ls.below (by repeat' (first | exact Below.refl _ _ | exact Nat.le_refl _ | (refine Below.alloc ?_ ?_ _) | (refine Below.setCell ?_ ?_ _) | (refine Below.drew ?_) | (refine below_drewN ?_ _) | assumption | (simp; done) | (simp; omega)))) HP.out.l4 (by omega) (by omega)).mono ?_
    rintro e w1 ⟨rfl, rfl⟩
    rw [C2.out]
    go_wp2_with fail
    refine (laws_szStringS _ ps _ _ (HP.out.ps.below (by repeat' (first | exact Below.refl _ _ | exact Nat.le_refl _ | (refine Below.alloc ?_ ?_ _) | (refine Below.setCell ?_ ?_ _) | (refine Below.drew ?_) | (refine below_drewN ?_ _) | assumption | (simp; done) | (simp; omega)))) HP.out.p4 (by omega) (by omega)).mono ?_
    rintro e w1 ⟨rfl, rfl⟩
    rw [C3.out]
    go_wp2_with fail
    refine (laws_szIntS _ es _ _ (HP.out.es.below (by repeat' (first | exact Below.refl _ _ | exact Nat.le_refl _ | (refine Below.alloc ?_ ?_ _) | (refine Below.setCell ?_ ?_ _) | (refine Below.drew ?_) | (refine below_drewN ?_ _) | assumption | (simp; done) | (simp; omega)))) (by omega) (by omega)).mono ?_
    rintro e w1 ⟨rfl, rfl⟩
    rw [HQq.out, C4.out]
    go_wp2_with fail
    refine (laws_szInsS is iA ic _ _ (HP.out.i3.belowA (by repeat' (first | exact Below.refl _ _ | exact Nat.le_refl _ | (refine Below.alloc ?_ ?_ _) | (refine Below.setCell ?_ ?_ _) | (refine Below.drew ?_) | (refine below_drewN ?_ _) | assumption | (simp; done) | (simp; omega)))) hpl hpc (by omega) (by omega)).mono ?_
    rintro e w1 ⟨rfl, b1⟩
    have B1 : Hid (Below w.heap.size w w1) := Lib.hid (Below.trans (by repeat' (first | exact Below.refl _ _ | exact Nat.le_refl _ | (refine Below.alloc ?_ ?_ _) | (refine Below.setCell ?_ ?_ _) | (refine Below.drew ?_) | (refine below_drewN ?_ _) | assumption | (simp; done) | (simp; omega))) (b1.mono (by simp)))
    rw [C5.out]
    clear b1
    go_wp2_with fail
    go_ret
    exact ⟨ret_int (by rw [HQ.out, C5.out]), B1.out⟩
  · have C5 := Lib.hid (cut0_pos (n := q - (totIs is : Int)) (by omega))
    have g5' : 0 ≤ q - (totIs is : Int) := by omega
    have HQq := Lib.hid hq
    clear g5 hq
    go_enter Tryd.func35, Tryd.ntmps35
    go_wp2_with fail
    refine (laws_szStringS _ gs _ _ (HP.out.gs.below (by repeat' (first | exact Below.refl _ _ | exact Nat.le_refl _ | (refine Below.alloc ?_ ?_ _) | (refine Below.setCell ?_ ?_ _) | (refine Below.drew ?_) | (refine below_drewN ?_ _) | assumption | (simp; done) | (simp; omega)))) HP.out.g4 h0 h1).mono ?_
    rintro e w1 ⟨rfl, rfl⟩
    rw [C1.out]
    go_wp2_with fail
    refine (laws_szStringS _ ls _ _ (HP.out.ls.below (by repeat' (first | exact Below.refl _ _ | exact Nat.le_refl _ | (refine Below.alloc ?_ ?_ _) | (refine Below.setCell ?_ ?_ _) | (refine Below.drew ?_) | (refine below_drewN ?_ _) | assumption | (simp; done) | (simp; omega)))) HP.out.l4 (by omega) (by omega)).mono ?_
    rintro e w1 ⟨rfl, rfl⟩
    rw [C2.out]
    go_wp2_with fail
    refine (laws_szStringS _ ps _ _ (HP.out.ps.below (by repeat' (first | exact Below.refl _ _ | exact Nat.le_refl _ | (refine Below.alloc ?_ ?_ _) | (refine Below.setCell ?_ ?_ _) | (refine Below.drew ?_) | (refine below_drewN ?_ _) | assumption | (simp; done) | (simp; omega)))) HP.out.p4 (by omega) (by omega)).mono ?_
    rintro e w1 ⟨rfl, rfl⟩
    rw [C3.out]
    go_wp2_with fail
    refine (laws_szIntS _ es _ _ (HP.out.es.below (by repeat' (first | exact Below.refl _ _ | exact Nat.le_refl _ | (refine Below.alloc ?_ ?_ _) | (refine Below.setCell ?_ ?_ _) | (refine Below.drew ?_) | (refine below_drewN ?_ _) | assumption | (simp; done) | (simp; omega)))) (by omega) (by omega)).mono ?_
    rintro e w1 ⟨rfl, rfl⟩
    rw [HQq.out, C4.out]
    go_wp2_with fail
    refine (laws_szInsS is iA ic _ _ (HP.out.i3.belowA (by repeat' (first | exact Below.refl _ _ | exact Nat.le_refl _ | (refine Below.alloc ?_ ?_ _) | (refine Below.setCell ?_ ?_ _) | (refine Below.drew ?_) | (refine below_drewN ?_ _) | assumption | (simp; done) | (simp; omega)))) hpl hpc (by omega) (by omega)).mono ?_
    rintro e w1 ⟨rfl, b1⟩
    have B1 : Hid (Below w.heap.size w w1) := Lib.hid (Below.trans (by repeat' (first | exact Below.refl _ _ | exact Nat.le_refl _ | (refine Below.alloc ?_ ?_ _) | (refine Below.setCell ?_ ?_ _) | (refine Below.drew ?_) | (refine below_drewN ?_ _) | assumption | (simp; done) | (simp; omega))) (b1.mono (by simp)))
    rw [C5.out]
    clear b1
    go_wp2_with fail
    go_ret
    exact ⟨ret_int (by rw [HQ.out, C5.out]), B1.out⟩
end Go.Proofs.YtefcdpkficojgaaDoor
