/- Lemmas for the row. -/
import Derived.Test.YtadcebdhgocmhaaKo42
import Derived.Test.YtadcebdhgocmhaaKo47
import Derived.Test.YtadcebdhgocmhaaKo48
import Derived.Test.YtadcebdhgocmhaaKo51
import Derived.Test.YtadcebdhgocmhaaKo21
import Derived.Test.YtadcebdhgocmhaaKo50
import Derived.Deep.RegionHeld3
namespace Go.Proofs.Ytadcebdhgocmhaa
open Go.RowKit
set_option linter.unusedVariables false
theorem code_marks {p : Pg} (ht : totPg p ≤ 1048576) : markC (codeR p).1 ≤ 12600000 ∧ ((codeR p).1.globals.length ≤ 1000 ∧ (codeR p).1.locks.length ≤ 1000 ∧ (codeR p).1.procs.length ≤ 1000) := by
  by_cases hf : faultR p = 0
  · rw [codeR_good hf]
    obtain ⟨h1, h2, h3, _⟩ := fault_facts hf
    exact ⟨marks_code hf ht, by show p.globals.length ≤ 1000; omega, by show p.locks.length ≤ 1000; omega, by show (pnames p.procs).length ≤ 1000; rw [pnames_len]; omega⟩
  · rw [codeR_bad hf]
    exact ⟨by show (0 : Nat) ≤ _; omega, by show (0 : Nat) ≤ _; omega, by show (0 : Nat) ≤ _; omega, by show (0 : Nat) ≤ _; omega⟩
set_option maxHeartbeats 12800000 in
set_option maxRecDepth 100000 in
theorem law_CodeOf (v : Value) (p : Pg) (w : World) (o : IsProg w v p) :
    Calls Try.prog 4 #[v] w fun e w' => e = .returned (.bool true) ∧ Below w.heap.size w w' := by
  obtain ⟨x, rfl, hp⟩ := o
  have HP := Lib.hid hp
  clear hp
  by_cases h1 : (1048576 : Int) - (totPg p : Int) < 0
  · have C1 := Lib.hid (cut0_neg h1)
    unfold V3.val
    go_enter Try.func4, Try.ntmps4
    go_wp2_with fail
    refine (laws_szProg p x _ 1048576 (HP.out.belowA (by repeat' first|exact .refl _ _|exact Nat.le_refl _|refine .alloc ?_ ?_ _|refine .setCell ?_ ?_ _|refine .drew ?_|refine below_drewN ?_ _|assumption|(simp;done)|(simp;omega))) (by omega) (by omega)).mono ?_
    rintro e w1 ⟨rfl, b1⟩
    have B1 : Hid (Below w.heap.size w w1) := Lib.hid (Below.trans (by repeat' first|exact .refl _ _|exact Nat.le_refl _|refine .alloc ?_ ?_ _|refine .setCell ?_ ?_ _|refine .drew ?_|refine below_drewN ?_ _|assumption|(simp;done)|(simp;omega)) (b1.mono (by simp)))
    rw [C1.out]
    clear b1
    go_wp2_with fail
    go_ret
    exact ⟨rfl, B1.out⟩
  have C1 := Lib.hid (cut0_pos (n := (1048576 : Int) - (totPg p : Int)) (by omega))
  have htot : totPg p ≤ 1048576 := by omega
  have h1' : 0 ≤ (1048576 : Int) - (totPg p : Int) := by omega
  have hmz := markZ_tot p
  have hmc := code_marks htot
  obtain ⟨R, hR⟩ : ∃ R, codeR p = R := ⟨_, rfl⟩
  rw [hR] at hmc
  obtain ⟨C, ok⟩ := R
  simp only at hmc
  have hmc1 := hmc.1
  have HR := Lib.hid hR
  clear hR
  unfold V3.val
  go_enter Try.func4, Try.ntmps4
  go_wp2_with fail
  refine (laws_szProg p x _ 1048576 (HP.out.belowA (by repeat' first|exact .refl _ _|exact Nat.le_refl _|refine .alloc ?_ ?_ _|refine .setCell ?_ ?_ _|refine .drew ?_|refine below_drewN ?_ _|assumption|(simp;done)|(simp;omega))) (by omega) (by omega)).mono ?_
  rintro e w1 ⟨rfl, b1⟩
  have BT : Hid (Below w.heap.size w w1) := Lib.hid (Below.trans (by repeat' first|exact .refl _ _|exact Nat.le_refl _|refine .alloc ?_ ?_ _|refine .setCell ?_ ?_ _|refine .drew ?_|refine below_drewN ?_ _|assumption|(simp;done)|(simp;omega)) (b1.mono (by simp)))
  have Y0 : Hid (w1.heap[w.heap.size]? = some (.cells #[.slice x.gA p.globals.length x.gc, .slice x.lA p.locks.length x.lc, .slice x.pA p.procs.length x.pc] 43 (0, 0))) := Lib.hid ((b1.block w.heap.size (by simp)).trans (heap_alloc_new _ _))
  rw [C1.out]
  clear b1
  replace HP := Lib.hid (HP.out.belowA BT.out)
  obtain ⟨y00, y01, y02⟩ := box3P Y0.out
  have hy0 := lt_of_block Y0.out
  go_wp2_with fail
  refine (laws_toProg p x _ HP.out htot).mono ?_
  rintro e w2 ⟨x2, rfl, o2, b2⟩
  have T2 := Lib.hid o2.any
  have B2 := Lib.hid b2
  clear o2 b2
  clear y00 y01 y02 hy0
  replace Y0 := Lib.hid ((B2.out.block w.heap.size (lt_of_block Y0.out)).trans Y0.out)
  replace HP := Lib.hid (HP.out.belowA B2.out)
  replace BT := Lib.hid (below_then BT.out B2.out)
  obtain ⟨y00, y01, y02⟩ := box3P Y0.out
  have hy0 := lt_of_block Y0.out
  go_wp2_with fail
  have c3 := spec_CodeOf p x2 w2 T2.out htot
  rw [HR.out] at c3
  refine c3.mono ?_
  clear c3
  rintro e w3 ⟨xw, rfl, cw, b3⟩
  simp only at cw
  have W0 := Lib.hid cw.any
  have B3 := Lib.hid b3
  clear cw b3 T2
  unfold V5.val
  clear y00 y01 y02 hy0
  replace Y0 := Lib.hid ((B3.out.block w.heap.size (lt_of_block Y0.out)).trans Y0.out)
  replace HP := Lib.hid (HP.out.belowA B3.out)
  replace BT := Lib.hid (below_then BT.out B3.out)
  obtain ⟨y00, y01, y02⟩ := box3P Y0.out
  have hy0 := lt_of_block Y0.out
  go_wp2_with fail
  clear y00 y01 y02 hy0
  obtain ⟨v3, hwv3⟩ : ∃ W, w3.alloc (.cells #[.slice xw.gA C.globals.length xw.gc, .slice xw.lA C.locks.length xw.lc, .slice xw.pA C.procs.length xw.pc, .slice xw.eA C.entry.length xw.ec, .slice xw.iA C.ins.length xw.ic] 48) = W := ⟨_, rfl⟩
  obtain ⟨g1, hgg1⟩ : ∃ g, w3.heap.size = g := ⟨_, rfl⟩
  have Y1 : Hid (v3.heap[g1]? = some (.cells #[.slice xw.gA C.globals.length xw.gc, .slice xw.lA C.locks.length xw.lc, .slice xw.pA C.procs.length xw.pc, .slice xw.eA C.entry.length xw.ec, .slice xw.iA C.ins.length xw.ic] 48 (0, 0))) := Lib.hid (by rw [← hwv3, ← hgg1]; exact heap_alloc_new _ _)
  have BX : Hid (Below w3.heap.size w3 v3) := Lib.hid (by rw [← hwv3]; exact Below.alloc (Below.refl _ _) (Nat.le_refl _) _)
  have hlg1a : w3.heap.size ≤ g1 := by omega
  have hlg1b : g1 ≤ w3.heap.size := by omega
  rw [hwv3]
  (try rw [hgg1])
  clear hwv3 hgg1
  have hsv3 := BX.out.size
  replace Y0 := Lib.hid ((BX.out.block w.heap.size (lt_of_block Y0.out)).trans Y0.out)
  replace HP := Lib.hid (HP.out.belowA BX.out)
  replace W0 := Lib.hid (W0.out.belowA BX.out)
  replace BT := Lib.hid (below_then BT.out BX.out)
  have CV := W0
  have HPV := HP
  have BTV := BT
  have hy0v := lt_of_block Y0.out
  have hy1v := lt_of_block Y1.out
  have BVW : Hid (Below v3.heap.size v3 v3) := Lib.hid (Below.refl _ _)
  obtain ⟨y00, y01, y02⟩ := box3P Y0.out
  have hy0 := lt_of_block Y0.out
  obtain ⟨y10, y11, y12, y13, y14, -, -⟩ := box5 Y1.out
  have hy1 := lt_of_block Y1.out
  refine (laws_toProg p x _ HP.out htot).mono ?_
  rintro e w4 ⟨x4, rfl, o4, b4⟩
  have B4 := Lib.hid b4
  have T4 := Lib.hid o4
  have hs4 := b4.size
  clear o4 b4
  unfold V3.val
  clear y00 y01 y02 hy0
  clear y10 y11 y12 y13 y14 hy1
  replace Y0 := Lib.hid ((B4.out.block w.heap.size (lt_of_block Y0.out)).trans Y0.out)
  replace Y1 := Lib.hid ((B4.out.block g1 (lt_of_block Y1.out)).trans Y1.out)
  replace HP := Lib.hid (HP.out.belowA B4.out)
  replace W0 := Lib.hid (W0.out.belowA B4.out)
  replace BT := Lib.hid (below_then BT.out B4.out)
  replace BVW := Lib.hid (below_then BVW.out B4.out)
  obtain ⟨y00, y01, y02⟩ := box3P Y0.out
  have hy0 := lt_of_block Y0.out
  obtain ⟨y10, y11, y12, y13, y14, -, -⟩ := box5 Y1.out
  have hy1 := lt_of_block Y1.out
  go_wp2_with fail
  clear y00 y01 y02 hy0
  clear y10 y11 y12 y13 y14 hy1
  replace T4 : Hid (PgO w4 (fun b => v3.heap.size ≤ b ∧ b < w4.heap.size) x4 p) := T4
  obtain ⟨v4, hwv4⟩ : ∃ W, w4.alloc (.cells #[.slice x4.gA p.globals.length x4.gc, .slice x4.lA p.locks.length x4.lc, .slice x4.pA p.procs.length x4.pc] 27) = W := ⟨_, rfl⟩
  obtain ⟨g2, hgg2⟩ : ∃ g, w4.heap.size = g := ⟨_, rfl⟩
  have Y2 : Hid (v4.heap[g2]? = some (.cells #[.slice x4.gA p.globals.length x4.gc, .slice x4.lA p.locks.length x4.lc, .slice x4.pA p.procs.length x4.pc] 27 (0, 0))) := Lib.hid (by rw [← hwv4, ← hgg2]; exact heap_alloc_new _ _)
  have BX : Hid (Below w4.heap.size w4 v4) := Lib.hid (by rw [← hwv4]; exact Below.alloc (Below.refl _ _) (Nat.le_refl _) _)
  have hlg2a : w4.heap.size ≤ g2 := by omega
  have hlg2b : g2 ≤ w4.heap.size := by omega
  rw [hwv4]
  (try rw [hgg2])
  clear hwv4 hgg2
  have hsv4 := BX.out.size
  replace Y0 := Lib.hid ((BX.out.block w.heap.size (lt_of_block Y0.out)).trans Y0.out)
  replace Y1 := Lib.hid ((BX.out.block g1 (lt_of_block Y1.out)).trans Y1.out)
  replace HP := Lib.hid (HP.out.belowA BX.out)
  replace W0 := Lib.hid (W0.out.belowA BX.out)
  replace BT := Lib.hid (below_then BT.out BX.out)
  replace BVW := Lib.hid (below_then BVW.out BX.out)
  replace T4 := Lib.hid (T4.out.belowO (fun b hb => hb.2) BX.out)
  obtain ⟨y00, y01, y02⟩ := box3P Y0.out
  have hy0 := lt_of_block Y0.out
  obtain ⟨y10, y11, y12, y13, y14, -, -⟩ := box5 Y1.out
  have hy1 := lt_of_block Y1.out
  obtain ⟨y20, y21, y22⟩ := box3P Y2.out
  have hy2 := lt_of_block Y2.out
  have c5 := impl_CodeOf p x4 v4 T4.out.any htot
  rw [HR.out] at c5
  refine c5.mono ?_
  clear c5
  rintro e w5 ⟨xg, rfl, cg, b5⟩
  simp only at cg
  have B5 := Lib.hid b5
  have G0 := Lib.hid cg
  have hs5 := b5.size
  clear cg b5
  unfold V5.val
  clear y00 y01 y02 hy0
  clear y10 y11 y12 y13 y14 hy1
  clear y20 y21 y22 hy2
  replace Y0 := Lib.hid ((B5.out.block w.heap.size (lt_of_block Y0.out)).trans Y0.out)
  replace Y1 := Lib.hid ((B5.out.block g1 (lt_of_block Y1.out)).trans Y1.out)
  replace Y2 := Lib.hid ((B5.out.block g2 (lt_of_block Y2.out)).trans Y2.out)
  replace HP := Lib.hid (HP.out.belowA B5.out)
  replace W0 := Lib.hid (W0.out.belowA B5.out)
  replace T4 := Lib.hid (T4.out.belowO (fun b hb => by have := hb.2; omega) B5.out)
  replace BT := Lib.hid (below_then BT.out B5.out)
  replace BVW := Lib.hid (below_then BVW.out B5.out)
  obtain ⟨y00, y01, y02⟩ := box3P Y0.out
  have hy0 := lt_of_block Y0.out
  obtain ⟨y10, y11, y12, y13, y14, -, -⟩ := box5 Y1.out
  have hy1 := lt_of_block Y1.out
  obtain ⟨y20, y21, y22⟩ := box3P Y2.out
  have hy2 := lt_of_block Y2.out
  go_wp2_with fail
  clear y00 y01 y02 hy0
  clear y10 y11 y12 y13 y14 hy1
  clear y20 y21 y22 hy2
  replace G0 : Hid (CdO w5 (fun b => v4.heap.size ≤ b ∧ b < w5.heap.size) xg C) := G0
  obtain ⟨v5, hwv5⟩ : ∃ W, w5.alloc (.cells #[.slice xg.gA C.globals.length xg.gc, .slice xg.lA C.locks.length xg.lc, .slice xg.pA C.procs.length xg.pc, .slice xg.eA C.entry.length xg.ec, .slice xg.iA C.ins.length xg.ic] 48) = W := ⟨_, rfl⟩
  obtain ⟨g3, hgg3⟩ : ∃ g, w5.heap.size = g := ⟨_, rfl⟩
  have Y3 : Hid (v5.heap[g3]? = some (.cells #[.slice xg.gA C.globals.length xg.gc, .slice xg.lA C.locks.length xg.lc, .slice xg.pA C.procs.length xg.pc, .slice xg.eA C.entry.length xg.ec, .slice xg.iA C.ins.length xg.ic] 48 (0, 0))) := Lib.hid (by rw [← hwv5, ← hgg3]; exact heap_alloc_new _ _)
  have BX : Hid (Below w5.heap.size w5 v5) := Lib.hid (by rw [← hwv5]; exact Below.alloc (Below.refl _ _) (Nat.le_refl _) _)
  have hlg3a : w5.heap.size ≤ g3 := by omega
  have hlg3b : g3 ≤ w5.heap.size := by omega
  rw [hwv5]
  (try rw [hgg3])
  clear hwv5 hgg3
  have hsv5 := BX.out.size
  replace Y0 := Lib.hid ((BX.out.block w.heap.size (lt_of_block Y0.out)).trans Y0.out)
  replace Y1 := Lib.hid ((BX.out.block g1 (lt_of_block Y1.out)).trans Y1.out)
  replace Y2 := Lib.hid ((BX.out.block g2 (lt_of_block Y2.out)).trans Y2.out)
  replace HP := Lib.hid (HP.out.belowA BX.out)
  replace W0 := Lib.hid (W0.out.belowA BX.out)
  replace T4 := Lib.hid (T4.out.belowO (fun b hb => by have := hb.2; omega) BX.out)
  replace BT := Lib.hid (below_then BT.out BX.out)
  replace BVW := Lib.hid (below_then BVW.out BX.out)
  replace G0 := Lib.hid (G0.out.belowO (fun b hb => hb.2) BX.out)
  obtain ⟨y00, y01, y02⟩ := box3P Y0.out
  have hy0 := lt_of_block Y0.out
  obtain ⟨y10, y11, y12, y13, y14, -, -⟩ := box5 Y1.out
  have hy1 := lt_of_block Y1.out
  obtain ⟨y20, y21, y22⟩ := box3P Y2.out
  have hy2 := lt_of_block Y2.out
  obtain ⟨y30, y31, y32, y33, y34, -, -⟩ := box5 Y3.out
  have hy3 := lt_of_block Y3.out
  have hst : (ok != ok) = false := by cases ok <;> rfl
  refine (laws_eqCode C C xg xw _ G0.out.any W0.out).mono ?_
  rintro e w6 ⟨rfl, b6⟩
  have B6 := Lib.hid b6
  have hs6 := b6.size
  clear b6
  rw [decP_yes (rfl : C = C)]
  clear y00 y01 y02 hy0
  clear y10 y11 y12 y13 y14 hy1
  clear y20 y21 y22 hy2
  clear y30 y31 y32 y33 y34 hy3
  replace Y0 := Lib.hid ((B6.out.block w.heap.size (lt_of_block Y0.out)).trans Y0.out)
  replace Y1 := Lib.hid ((B6.out.block g1 (lt_of_block Y1.out)).trans Y1.out)
  replace Y2 := Lib.hid ((B6.out.block g2 (lt_of_block Y2.out)).trans Y2.out)
  replace Y3 := Lib.hid ((B6.out.block g3 (lt_of_block Y3.out)).trans Y3.out)
  replace HP := Lib.hid (HP.out.belowA B6.out)
  replace W0 := Lib.hid (W0.out.belowA B6.out)
  replace T4 := Lib.hid (T4.out.belowO (fun b hb => by have := hb.2; omega) B6.out)
  replace G0 := Lib.hid (G0.out.belowO (fun b hb => by have := hb.2; omega) B6.out)
  replace BT := Lib.hid (below_then BT.out B6.out)
  replace BVW := Lib.hid (below_then BVW.out B6.out)
  obtain ⟨y00, y01, y02⟩ := box3P Y0.out
  have hy0 := lt_of_block Y0.out
  obtain ⟨y10, y11, y12, y13, y14, -, -⟩ := box5 Y1.out
  have hy1 := lt_of_block Y1.out
  obtain ⟨y20, y21, y22⟩ := box3P Y2.out
  have hy2 := lt_of_block Y2.out
  obtain ⟨y30, y31, y32, y33, y34, -, -⟩ := box5 Y3.out
  have hy3 := lt_of_block Y3.out
  have st : decB (p = p) = true := decB_yes rfl
  go_wp2_with fail
  go_region_held3 (fun w' => w'.cell? ⟨w.heap.size, 0, none⟩ = some (.slice x.gA p.globals.length x.gc) ∧ w'.cell? ⟨w.heap.size, 1, none⟩ = some (.slice x.lA p.locks.length x.lc) ∧ w'.cell? ⟨w.heap.size, 2, none⟩ = some (.slice x.pA p.procs.length x.pc) ∧ w'.cell? ⟨g2, 0, none⟩ = some (.slice x4.gA p.globals.length x4.gc) ∧ w'.cell? ⟨g2, 1, none⟩ = some (.slice x4.lA p.locks.length x4.lc) ∧ w'.cell? ⟨g2, 2, none⟩ = some (.slice x4.pA p.procs.length x4.pc))
    (first | go_keep | (go_split_ands; refine ⟨?_, ?_, ?_, ?_, ?_, ?_⟩ <;> first | exact cell_keep b10 (by assumption) | exact cell_keep b9 (by assumption)))
    (first
      | (go_at_call 17; (refine (laws_toProg p x _ (by exact HP.out.drew) htot).mono ?_); rintro e w9 ⟨x9, rfl, o9, b9⟩; unfold V3.val)
      | (go_at_call 20; refine (laws_eqProg p p x4 x9 _ (by exact T4.out.any.drew.belowA b9) (by exact o9.any)).mono ?_; rintro e w10 ⟨rfl, b10⟩))
  have B10 : Hid (Below w6.heap.size w6 w10) := Lib.hid (below_then (Below.trans (Below.refl _ _).drew b9) b10)
  have hs10 := B10.out.size
  clear b9 b10 o9 st
  clear y00 y01 y02 hy0
  clear y10 y11 y12 y13 y14 hy1
  clear y20 y21 y22 hy2
  clear y30 y31 y32 y33 y34 hy3
  replace Y0 := Lib.hid ((B10.out.block w.heap.size (lt_of_block Y0.out)).trans Y0.out)
  replace Y1 := Lib.hid ((B10.out.block g1 (lt_of_block Y1.out)).trans Y1.out)
  replace Y2 := Lib.hid ((B10.out.block g2 (lt_of_block Y2.out)).trans Y2.out)
  replace Y3 := Lib.hid ((B10.out.block g3 (lt_of_block Y3.out)).trans Y3.out)
  replace HP := Lib.hid (HP.out.belowA B10.out)
  replace W0 := Lib.hid (W0.out.belowA B10.out)
  replace T4 := Lib.hid (T4.out.belowO (fun b hb => by have := hb.2; omega) B10.out)
  replace G0 := Lib.hid (G0.out.belowO (fun b hb => by have := hb.2; omega) B10.out)
  replace BT := Lib.hid (below_then BT.out B10.out)
  replace BVW := Lib.hid (below_then BVW.out B10.out)
  obtain ⟨y00, y01, y02⟩ := box3P Y0.out
  have hy0 := lt_of_block Y0.out
  obtain ⟨y10, y11, y12, y13, y14, -, -⟩ := box5 Y1.out
  have hy1 := lt_of_block Y1.out
  obtain ⟨y20, y21, y22⟩ := box3P Y2.out
  have hy2 := lt_of_block Y2.out
  obtain ⟨y30, y31, y32, y33, y34, -, -⟩ := box5 Y3.out
  have hy3 := lt_of_block Y3.out
  go_wp2_with fail
  refine (laws_markProgH p x4 1 _ _ T4.out (fun b hb => by have := hb.2; omega) (by omega) (by omega)).mono ?_
  rintro e w11 ⟨rfl, -, k11⟩
  have K11 := Lib.hid k11
  have hs11 := k11.size
  clear k11
  clear y00 y01 y02 hy0
  clear y10 y11 y12 y13 y14 hy1
  clear y20 y21 y22 hy2
  clear y30 y31 y32 y33 y34 hy3
  replace Y0 := Lib.hid ((K11.out.block w.heap.size (lt_of_block Y0.out) (fun h => by have := h.1; have := h.2; omega)).trans Y0.out)
  replace Y1 := Lib.hid ((K11.out.block g1 (lt_of_block Y1.out) (fun h => by have := h.1; have := h.2; omega)).trans Y1.out)
  replace Y3 := Lib.hid ((K11.out.block g3 (lt_of_block Y3.out) (fun h => by have := h.1; have := h.2; omega)).trans Y3.out)
  have BK : Hid (Below v3.heap.size w10 w11) := Lib.hid (K11.out.below (by omega) (fun b hb h => by have := h.1; omega))
  skip
  replace G0 := Lib.hid (G0.out.keep (w' := w11) fun b hb => K11.out.block b (by have := hb.2; omega) (fun h => by have := h.2; have := hb.1; omega))
  replace BT := Lib.hid (BT.out.trans (BK.out.mono (by omega)))
  have W11 := Lib.hid (CV.out.belowA (below_kp BVW.out K11.out (by omega) (fun b hb h => by have := h.1; omega)))
  replace W0 := W11
  clear W11
  replace HP := Lib.hid (HPV.out.belowA (below_kp BVW.out K11.out (by omega) (fun b hb h => by have := h.1; omega)))
  clear T4 BK
  have hneg : ¬ (((1 + markZ p : Nat) : Int) < 0) := by omega
  obtain ⟨y00, y01, y02⟩ := box3P Y0.out
  have hy0 := lt_of_block Y0.out
  obtain ⟨y10, y11, y12, y13, y14, -, -⟩ := box5 Y1.out
  have hy1 := lt_of_block Y1.out
  obtain ⟨y30, y31, y32, y33, y34, -, -⟩ := box5 Y3.out
  have hy3 := lt_of_block Y3.out
  go_wp2_with fail
  refine (laws_eqCode C C xg xw _ G0.out.any W0.out).mono ?_
  rintro e w12 ⟨rfl, b12⟩
  have B12 := Lib.hid b12
  have hs12 := b12.size
  clear b12
  rw [decP_yes (rfl : C = C)]
  clear y00 y01 y02 hy0
  clear y10 y11 y12 y13 y14 hy1
  clear y30 y31 y32 y33 y34 hy3
  replace Y0 := Lib.hid ((B12.out.block w.heap.size (lt_of_block Y0.out)).trans Y0.out)
  replace Y1 := Lib.hid ((B12.out.block g1 (lt_of_block Y1.out)).trans Y1.out)
  replace Y3 := Lib.hid ((B12.out.block g3 (lt_of_block Y3.out)).trans Y3.out)
  replace HP := Lib.hid (HP.out.belowA B12.out)
  replace W0 := Lib.hid (W0.out.belowA B12.out)
  replace G0 := Lib.hid (G0.out.belowO (fun b hb => by have := hb.2; omega) B12.out)
  replace BT := Lib.hid (below_then BT.out B12.out)
  obtain ⟨y00, y01, y02⟩ := box3P Y0.out
  have hy0 := lt_of_block Y0.out
  obtain ⟨y10, y11, y12, y13, y14, -, -⟩ := box5 Y1.out
  have hy1 := lt_of_block Y1.out
  obtain ⟨y30, y31, y32, y33, y34, -, -⟩ := box5 Y3.out
  have hy3 := lt_of_block Y3.out
  go_wp2_with fail
  refine (laws_markCodeH C xg 1 _ _ G0.out (fun b hb => by have := hb.2; omega) (by omega) (by omega)).mono ?_
  rintro e w13 ⟨rfl, m13, k13⟩
  have K13 := Lib.hid k13
  have M0 := Lib.hid m13.any
  have hs13 := k13.size
  clear k13 m13
  clear y00 y01 y02 hy0
  clear y10 y11 y12 y13 y14 hy1
  clear y30 y31 y32 y33 y34 hy3
  replace Y0 := Lib.hid ((K13.out.block w.heap.size (lt_of_block Y0.out) (fun h => by have := h.1; have := h.2; omega)).trans Y0.out)
  replace Y1 := Lib.hid ((K13.out.block g1 (lt_of_block Y1.out) (fun h => by have := h.1; have := h.2; omega)).trans Y1.out)
  replace Y3 := Lib.hid ((K13.out.block g3 (lt_of_block Y3.out) (fun h => by have := h.1; have := h.2; omega)).trans Y3.out)
  have BV13 : Hid (Below v3.heap.size v3 w13) := Lib.hid (below_kp (below_then (below_kp BVW.out K11.out (by omega) (fun b hb h => by have := h.1; omega)) B12.out) K13.out (by omega) (fun b hb h => by have := h.1; omega))
  replace W0 := Lib.hid (CV.out.belowA BV13.out)
  replace HP := Lib.hid (HPV.out.belowA BV13.out)
  replace BT := Lib.hid (BTV.out.trans (BV13.out.mono (by have := BTV.out.size; omega)))
  clear G0
  obtain ⟨y00, y01, y02⟩ := box3P Y0.out
  have hy0 := lt_of_block Y0.out
  obtain ⟨y10, y11, y12, y13, y14, -, -⟩ := box5 Y1.out
  have hy1 := lt_of_block Y1.out
  obtain ⟨y30, y31, y32, y33, y34, -, -⟩ := box5 Y3.out
  have hy3 := lt_of_block Y3.out
  go_wp2_with fail
  refine (laws_heldCode C xg 1 _ M0.out (by omega) (by omega) hmc.2).mono ?_
  rintro e w14 ⟨rfl, b14⟩
  have B14 := Lib.hid b14
  have hs14 := b14.size
  clear b14
  clear y00 y01 y02 hy0
  clear y10 y11 y12 y13 y14 hy1
  clear y30 y31 y32 y33 y34 hy3
  replace Y0 := Lib.hid ((B14.out.block w.heap.size (lt_of_block Y0.out)).trans Y0.out)
  replace Y1 := Lib.hid ((B14.out.block g1 (lt_of_block Y1.out)).trans Y1.out)
  replace Y3 := Lib.hid ((B14.out.block g3 (lt_of_block Y3.out)).trans Y3.out)
  replace HP := Lib.hid (HP.out.belowA B14.out)
  replace W0 := Lib.hid (W0.out.belowA B14.out)
  replace M0 := Lib.hid (M0.out.belowA B14.out)
  replace BT := Lib.hid (below_then BT.out B14.out)
  have hneg2 : ¬ (((1 + markC C : Nat) : Int) < 0) := by omega
  have hsame : (((1 + markC C : Nat) : Int) != ((1 + markC C : Nat) : Int)) = false := by simp
  obtain ⟨y00, y01, y02⟩ := box3P Y0.out
  have hy0 := lt_of_block Y0.out
  obtain ⟨y10, y11, y12, y13, y14, -, -⟩ := box5 Y1.out
  have hy1 := lt_of_block Y1.out
  obtain ⟨y30, y31, y32, y33, y34, -, -⟩ := box5 Y3.out
  have hy3 := lt_of_block Y3.out
  go_wp2_with fail
  refine (laws_toProg p x _ HP.out htot).mono ?_
  rintro e w15 ⟨x15, rfl, o15, b15⟩
  have B15 := Lib.hid b15
  have T15 := Lib.hid o15.any
  have hs15 := b15.size
  clear o15 b15
  clear y00 y01 y02 hy0
  clear y10 y11 y12 y13 y14 hy1
  clear y30 y31 y32 y33 y34 hy3
  replace Y0 := Lib.hid ((B15.out.block w.heap.size (lt_of_block Y0.out)).trans Y0.out)
  replace Y1 := Lib.hid ((B15.out.block g1 (lt_of_block Y1.out)).trans Y1.out)
  replace Y3 := Lib.hid ((B15.out.block g3 (lt_of_block Y3.out)).trans Y3.out)
  replace HP := Lib.hid (HP.out.belowA B15.out)
  replace W0 := Lib.hid (W0.out.belowA B15.out)
  replace M0 := Lib.hid (M0.out.belowA B15.out)
  replace BT := Lib.hid (below_then BT.out B15.out)
  obtain ⟨y00, y01, y02⟩ := box3P Y0.out
  have hy0 := lt_of_block Y0.out
  obtain ⟨y10, y11, y12, y13, y14, -, -⟩ := box5 Y1.out
  have hy1 := lt_of_block Y1.out
  obtain ⟨y30, y31, y32, y33, y34, -, -⟩ := box5 Y3.out
  have hy3 := lt_of_block Y3.out
  go_wp2_with fail
  have c16 := impl_CodeOf p x15 w15 T15.out htot
  rw [HR.out] at c16
  refine c16.mono ?_
  clear c16
  rintro e w16 ⟨xh, rfl, ch, b16⟩
  simp only at ch
  have B16 := Lib.hid b16
  have H0 := Lib.hid ch.any
  have hs16 := b16.size
  clear ch b16 T15
  unfold V5.val
  clear y00 y01 y02 hy0
  clear y10 y11 y12 y13 y14 hy1
  clear y30 y31 y32 y33 y34 hy3
  replace Y0 := Lib.hid ((B16.out.block w.heap.size (lt_of_block Y0.out)).trans Y0.out)
  replace Y1 := Lib.hid ((B16.out.block g1 (lt_of_block Y1.out)).trans Y1.out)
  replace Y3 := Lib.hid ((B16.out.block g3 (lt_of_block Y3.out)).trans Y3.out)
  replace HP := Lib.hid (HP.out.belowA B16.out)
  replace W0 := Lib.hid (W0.out.belowA B16.out)
  replace M0 := Lib.hid (M0.out.belowA B16.out)
  replace BT := Lib.hid (below_then BT.out B16.out)
  obtain ⟨y00, y01, y02⟩ := box3P Y0.out
  have hy0 := lt_of_block Y0.out
  obtain ⟨y10, y11, y12, y13, y14, -, -⟩ := box5 Y1.out
  have hy1 := lt_of_block Y1.out
  obtain ⟨y30, y31, y32, y33, y34, -, -⟩ := box5 Y3.out
  have hy3 := lt_of_block Y3.out
  go_wp2_with fail
  clear y00 y01 y02 hy0
  clear y10 y11 y12 y13 y14 hy1
  clear y30 y31 y32 y33 y34 hy3
  obtain ⟨v16, hwv16⟩ : ∃ W, w16.alloc (.cells #[.slice xh.gA C.globals.length xh.gc, .slice xh.lA C.locks.length xh.lc, .slice xh.pA C.procs.length xh.pc, .slice xh.eA C.entry.length xh.ec, .slice xh.iA C.ins.length xh.ic] 48) = W := ⟨_, rfl⟩
  obtain ⟨g4, hgg4⟩ : ∃ g, w16.heap.size = g := ⟨_, rfl⟩
  have Y4 : Hid (v16.heap[g4]? = some (.cells #[.slice xh.gA C.globals.length xh.gc, .slice xh.lA C.locks.length xh.lc, .slice xh.pA C.procs.length xh.pc, .slice xh.eA C.entry.length xh.ec, .slice xh.iA C.ins.length xh.ic] 48 (0, 0))) := Lib.hid (by rw [← hwv16, ← hgg4]; exact heap_alloc_new _ _)
  have BX : Hid (Below w16.heap.size w16 v16) := Lib.hid (by rw [← hwv16]; exact Below.alloc (Below.refl _ _) (Nat.le_refl _) _)
  have hlg4a : w16.heap.size ≤ g4 := by omega
  have hlg4b : g4 ≤ w16.heap.size := by omega
  rw [hwv16]
  (try rw [hgg4])
  clear hwv16 hgg4
  have hsv16 := BX.out.size
  replace Y0 := Lib.hid ((BX.out.block w.heap.size (lt_of_block Y0.out)).trans Y0.out)
  replace Y1 := Lib.hid ((BX.out.block g1 (lt_of_block Y1.out)).trans Y1.out)
  replace Y3 := Lib.hid ((BX.out.block g3 (lt_of_block Y3.out)).trans Y3.out)
  replace W0 := Lib.hid (W0.out.belowA BX.out)
  replace M0 := Lib.hid (M0.out.belowA BX.out)
  replace H0 := Lib.hid (H0.out.belowA BX.out)
  replace BT := Lib.hid (below_then BT.out BX.out)
  obtain ⟨y10, y11, y12, y13, y14, -, -⟩ := box5 Y1.out
  have hy1 := lt_of_block Y1.out
  obtain ⟨y30, y31, y32, y33, y34, -, -⟩ := box5 Y3.out
  have hy3 := lt_of_block Y3.out
  obtain ⟨y40, y41, y42, y43, y44, -, -⟩ := box5 Y4.out
  have hy4 := lt_of_block Y4.out
  refine (laws_eqCode C C xh xw _ H0.out W0.out).mono ?_
  rintro e w17 ⟨rfl, b17⟩
  have B17 := Lib.hid b17
  clear b17
  rw [decP_yes (rfl : C = C)]
  clear y10 y11 y12 y13 y14 hy1
  clear y30 y31 y32 y33 y34 hy3
  clear y40 y41 y42 y43 y44 hy4
  replace Y3 := Lib.hid ((B17.out.block g3 (lt_of_block Y3.out)).trans Y3.out)
  replace M0 := Lib.hid (M0.out.belowA B17.out)
  replace BT := Lib.hid (below_then BT.out B17.out)
  obtain ⟨y30, y31, y32, y33, y34, -, -⟩ := box5 Y3.out
  have hy3 := lt_of_block Y3.out
  go_wp2_with fail
  refine (laws_heldCode C xg 1 _ M0.out (by omega) (by omega) hmc.2).mono ?_
  rintro e w18 ⟨rfl, b18⟩
  have B18 := Lib.hid (below_then BT.out b18)
  clear b18
  go_wp2_with fail
  go_ret
  exact ⟨rfl, B18.out⟩
end Go.Proofs.Ytadcebdhgocmhaa
