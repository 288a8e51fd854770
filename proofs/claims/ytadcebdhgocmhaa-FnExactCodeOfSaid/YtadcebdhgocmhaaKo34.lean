/- Lemmas for the row. -/
import Derived.Test.YtadcebdhgocmhaaKo33
namespace Go.Proofs.Ytadcebdhgocmhaa
open Go.RowKit
set_option linter.unusedVariables false
def mainB : ByteArray := ⟨#[109, 97, 105, 110]⟩
noncomputable def faultR (p : Pg) : Int :=
  if okPg p = false then 1 else if twiceS p.globals = true then 2 else if twiceS p.locks = true then 2 else if twiceS (pnames p.procs) = true then 2
  else if 0 < (unkR p).length then 3 else if hasS (pnames p.procs) mainB = false then 4 else 0
theorem place_neg (ss : List ByteArray) (x : ByteArray) : decide (placeS ss x < 0) = !hasS ss x := by
  have h := placeS_has ss x
  rw [← h, ← decide_not]
  congr 1
  rw [eq_iff_iff]; omega
set_option maxHeartbeats 1600000 in
theorem spec_ProgFault (p : Pg) (x : V3) (w : World) (hp : PgIs w x p) (htot : totPg p ≤ 1048576) :
    Calls Try.prog 8 #[x.val p] w fun e w' => e = .returned (.int .i64 (faultR p)) ∧ Below w.heap.size w w' := by
  have HP := Lib.hid hp
  obtain ⟨gA, gc, lA, lc, pA, pc⟩ := x
  unfold V3.val
  simp only
  clear hp
  cases hk : okPg p with
  | false =>
    have F : Hid (faultR p = 1) := Lib.hid (by unfold faultR; rw [if_pos hk])
    have HK := Lib.hid hk
    clear hk
    go_enter Try.func8, Try.ntmps8
    go_wp2_with fail
    refine (spec_ProgOk p ⟨gA, gc, lA, lc, pA, pc⟩ _ (HP.out.belowA (by repeat' first|exact .refl _ _|exact Nat.le_refl _|refine .alloc ?_ ?_ _|refine .setCell ?_ ?_ _|refine .drew ?_|refine below_drewN ?_ _|assumption|(simp;done)|(simp;omega))) htot).mono ?_
    rintro e w1 ⟨rfl, b1⟩
    have H1 : Hid (Below w.heap.size w w1) := Lib.hid (Below.trans (by repeat' first|exact .refl _ _|exact Nat.le_refl _|refine .alloc ?_ ?_ _|refine .setCell ?_ ?_ _|refine .drew ?_|refine below_drewN ?_ _|assumption|(simp;done)|(simp;omega)) (b1.mono (by simp)))
    have BX1 : Hid (BoxB w1 w.heap.size [.slice gA p.globals.length gc, .slice lA p.locks.length lc, .slice pA p.procs.length pc]) := Lib.hid (BoxB.below (BoxB.lit rfl) b1)
    rw [HK.out]
    clear b1
    go_wp2_with fail
    go_ret
    exact ⟨ret_int F.out.symm, H1.out⟩
  | true =>
  have HK := Lib.hid hk
  have hpn := (okPg_procs hk).1
  clear hk
  have hf0 : ¬ okPg p = false := by rw [HK.out]; decide
  have HF0 := Lib.hid hf0
  clear hf0
  cases h1 : twiceS p.globals with
  | true =>
    have F : Hid (faultR p = 2) := Lib.hid (by unfold faultR; rw [if_neg HF0.out, if_pos h1])
    have HG := Lib.hid h1
    clear h1
    go_enter Try.func8, Try.ntmps8
    go_wp2_with fail
    refine (spec_ProgOk p ⟨gA, gc, lA, lc, pA, pc⟩ _ (HP.out.belowA (by repeat' first|exact .refl _ _|exact Nat.le_refl _|refine .alloc ?_ ?_ _|refine .setCell ?_ ?_ _|refine .drew ?_|refine below_drewN ?_ _|assumption|(simp;done)|(simp;omega))) htot).mono ?_
    rintro e w1 ⟨rfl, b1⟩
    have H1 : Hid (Below w.heap.size w w1) := Lib.hid (Below.trans (by repeat' first|exact .refl _ _|exact Nat.le_refl _|refine .alloc ?_ ?_ _|refine .setCell ?_ ?_ _|refine .drew ?_|refine below_drewN ?_ _|assumption|(simp;done)|(simp;omega)) (b1.mono (by simp)))
    have BX1 : Hid (BoxB w1 w.heap.size [.slice gA p.globals.length gc, .slice lA p.locks.length lc, .slice pA p.procs.length pc]) := Lib.hid (BoxB.below (BoxB.lit rfl) b1)
    rw [HK.out]
    clear b1
    have p0 := BX1.out 0 _ rfl
    have p1 := BX1.out 1 _ rfl
    have p2 := BX1.out 2 _ rfl
    go_wp2_with fail
    refine (spec_l07Twice _ p.globals _ ((HP.out.belowA H1.out).gs)).mono ?_
    rintro e w2 ⟨rfl, qt⟩
    have bq := qt.below
    clear qt
    have H2 := Lib.hid (below_then H1.out (bq))
    have BX2 := Lib.hid (BX1.out.below (bq))
    rw [HG.out]
    clear bq p0 p1 p2
    have p0 := BX2.out 0 _ rfl
    have p1 := BX2.out 1 _ rfl
    have p2 := BX2.out 2 _ rfl
    go_wp2_with fail
    go_ret
    exact ⟨ret_int F.out.symm, H2.out⟩
  | false =>
  have HG := Lib.hid h1
  have HGX : Hid (¬ twiceS p.globals = true) := Lib.hid (by rw [h1]; decide)
  clear h1
  cases h1 : twiceS p.locks with
  | true =>
    have F : Hid (faultR p = 2) := Lib.hid (by unfold faultR; rw [if_neg HF0.out, if_neg HGX.out, if_pos h1])
    have HL := Lib.hid h1
    clear h1
    go_enter Try.func8, Try.ntmps8
    go_wp2_with fail
    refine (spec_ProgOk p ⟨gA, gc, lA, lc, pA, pc⟩ _ (HP.out.belowA (by repeat' first|exact .refl _ _|exact Nat.le_refl _|refine .alloc ?_ ?_ _|refine .setCell ?_ ?_ _|refine .drew ?_|refine below_drewN ?_ _|assumption|(simp;done)|(simp;omega))) htot).mono ?_
    rintro e w1 ⟨rfl, b1⟩
    have H1 : Hid (Below w.heap.size w w1) := Lib.hid (Below.trans (by repeat' first|exact .refl _ _|exact Nat.le_refl _|refine .alloc ?_ ?_ _|refine .setCell ?_ ?_ _|refine .drew ?_|refine below_drewN ?_ _|assumption|(simp;done)|(simp;omega)) (b1.mono (by simp)))
    have BX1 : Hid (BoxB w1 w.heap.size [.slice gA p.globals.length gc, .slice lA p.locks.length lc, .slice pA p.procs.length pc]) := Lib.hid (BoxB.below (BoxB.lit rfl) b1)
    rw [HK.out]
    clear b1
    have p0 := BX1.out 0 _ rfl
    have p1 := BX1.out 1 _ rfl
    have p2 := BX1.out 2 _ rfl
    go_wp2_with fail
    refine (spec_l07Twice _ p.globals _ ((HP.out.belowA H1.out).gs)).mono ?_
    rintro e w2 ⟨rfl, qt⟩
    have bq := qt.below
    clear qt
    have H2 := Lib.hid (below_then H1.out (bq))
    have BX2 := Lib.hid (BX1.out.below (bq))
    rw [HG.out]
    clear bq p0 p1 p2
    have p0 := BX2.out 0 _ rfl
    have p1 := BX2.out 1 _ rfl
    have p2 := BX2.out 2 _ rfl
    go_wp2_with fail
    refine (spec_l07Twice _ p.locks _ ((HP.out.belowA H2.out).ls)).mono ?_
    rintro e w3 ⟨rfl, qt⟩
    have bq := qt.below
    clear qt
    have H3 := Lib.hid (below_then H2.out (bq))
    have BX3 := Lib.hid (BX2.out.below (bq))
    rw [HL.out]
    clear bq p0 p1 p2
    have p0 := BX3.out 0 _ rfl
    have p1 := BX3.out 1 _ rfl
    have p2 := BX3.out 2 _ rfl
    go_wp2_with fail
    go_ret
    exact ⟨ret_int F.out.symm, H3.out⟩
  | false =>
  have HL := Lib.hid h1
  have HLX : Hid (¬ twiceS p.locks = true) := Lib.hid (by rw [h1]; decide)
  clear h1
  cases h1 : twiceS (pnames p.procs) with
  | true =>
    have F : Hid (faultR p = 2) := Lib.hid (by unfold faultR; rw [if_neg HF0.out, if_neg HGX.out, if_neg HLX.out, if_pos h1])
    have HN := Lib.hid h1
    clear h1
    go_enter Try.func8, Try.ntmps8
    go_wp2_with fail
    refine (spec_ProgOk p ⟨gA, gc, lA, lc, pA, pc⟩ _ (HP.out.belowA (by repeat' first|exact .refl _ _|exact Nat.le_refl _|refine .alloc ?_ ?_ _|refine .setCell ?_ ?_ _|refine .drew ?_|refine below_drewN ?_ _|assumption|(simp;done)|(simp;omega))) htot).mono ?_
    rintro e w1 ⟨rfl, b1⟩
    have H1 : Hid (Below w.heap.size w w1) := Lib.hid (Below.trans (by repeat' first|exact .refl _ _|exact Nat.le_refl _|refine .alloc ?_ ?_ _|refine .setCell ?_ ?_ _|refine .drew ?_|refine below_drewN ?_ _|assumption|(simp;done)|(simp;omega)) (b1.mono (by simp)))
    have BX1 : Hid (BoxB w1 w.heap.size [.slice gA p.globals.length gc, .slice lA p.locks.length lc, .slice pA p.procs.length pc]) := Lib.hid (BoxB.below (BoxB.lit rfl) b1)
    rw [HK.out]
    clear b1
    have p0 := BX1.out 0 _ rfl
    have p1 := BX1.out 1 _ rfl
    have p2 := BX1.out 2 _ rfl
    go_wp2_with fail
    refine (spec_l07Twice _ p.globals _ ((HP.out.belowA H1.out).gs)).mono ?_
    rintro e w2 ⟨rfl, qt⟩
    have bq := qt.below
    clear qt
    have H2 := Lib.hid (below_then H1.out (bq))
    have BX2 := Lib.hid (BX1.out.below (bq))
    rw [HG.out]
    clear bq p0 p1 p2
    have p0 := BX2.out 0 _ rfl
    have p1 := BX2.out 1 _ rfl
    have p2 := BX2.out 2 _ rfl
    go_wp2_with fail
    refine (spec_l07Twice _ p.locks _ ((HP.out.belowA H2.out).ls)).mono ?_
    rintro e w3 ⟨rfl, qt⟩
    have bq := qt.below
    clear qt
    have H3 := Lib.hid (below_then H2.out (bq))
    have BX3 := Lib.hid (BX2.out.below (bq))
    rw [HL.out]
    clear bq p0 p1 p2
    have p0 := BX3.out 0 _ rfl
    have p1 := BX3.out 1 _ rfl
    have p2 := BX3.out 2 _ rfl
    go_wp2_with fail
    refine (spec_l07Procs p ⟨gA, gc, lA, lc, pA, pc⟩ _ (HP.out.belowA H3.out) (by omega)).mono ?_
    rintro e w4 ⟨An, cn, rfl, ownn⟩
    have H4 := Lib.hid (below_then H3.out (ownn.2))
    have BX4 := Lib.hid (BX3.out.below (ownn.2))
    have ON := Lib.hid ownn
    clear ownn p0 p1 p2
    have p0 := BX4.out 0 _ rfl
    have p1 := BX4.out 1 _ rfl
    have p2 := BX4.out 2 _ rfl
    go_wp2_with fail
    refine (spec_l07Twice _ (pnames p.procs) _ (ON.out.isStrs)).mono ?_
    rintro e w5 ⟨rfl, qt⟩
    have bq := qt.below
    clear qt
    have H5 := Lib.hid (below_then H4.out (bq))
    have BX5 := Lib.hid (BX4.out.below (bq))
    rw [HN.out]
    clear bq p0 p1 p2
    have p0 := BX5.out 0 _ rfl
    have p1 := BX5.out 1 _ rfl
    have p2 := BX5.out 2 _ rfl
    go_wp2_with fail
    go_ret
    exact ⟨ret_int F.out.symm, H5.out⟩
  | false =>
  have HN := Lib.hid h1
  have HNX : Hid (¬ twiceS (pnames p.procs) = true) := Lib.hid (by rw [h1]; decide)
  clear h1
  rcases Nat.eq_zero_or_pos (unkR p).length with hu | hu
  case inr =>
    have F : Hid (faultR p = 3) := Lib.hid (by unfold faultR; rw [if_neg HF0.out, if_neg HGX.out, if_neg HLX.out, if_neg HNX.out, if_pos hu])
    have hu1 : (0 : Int) < ((unkR p).length : Int) := by omega
    have hu2 : decide ((0 : Int) < ((unkR p).length : Int)) = true := decide_eq_true hu1
    go_enter Try.func8, Try.ntmps8
    go_wp2_with fail
    refine (spec_ProgOk p ⟨gA, gc, lA, lc, pA, pc⟩ _ (HP.out.belowA (by repeat' first|exact .refl _ _|exact Nat.le_refl _|refine .alloc ?_ ?_ _|refine .setCell ?_ ?_ _|refine .drew ?_|refine below_drewN ?_ _|assumption|(simp;done)|(simp;omega))) htot).mono ?_
    rintro e w1 ⟨rfl, b1⟩
    have H1 : Hid (Below w.heap.size w w1) := Lib.hid (Below.trans (by repeat' first|exact .refl _ _|exact Nat.le_refl _|refine .alloc ?_ ?_ _|refine .setCell ?_ ?_ _|refine .drew ?_|refine below_drewN ?_ _|assumption|(simp;done)|(simp;omega)) (b1.mono (by simp)))
    have BX1 : Hid (BoxB w1 w.heap.size [.slice gA p.globals.length gc, .slice lA p.locks.length lc, .slice pA p.procs.length pc]) := Lib.hid (BoxB.below (BoxB.lit rfl) b1)
    rw [HK.out]
    clear b1
    have p0 := BX1.out 0 _ rfl
    have p1 := BX1.out 1 _ rfl
    have p2 := BX1.out 2 _ rfl
    go_wp2_with fail
    refine (spec_l07Twice _ p.globals _ ((HP.out.belowA H1.out).gs)).mono ?_
    rintro e w2 ⟨rfl, qt⟩
    have bq := qt.below
    clear qt
    have H2 := Lib.hid (below_then H1.out (bq))
    have BX2 := Lib.hid (BX1.out.below (bq))
    rw [HG.out]
    clear bq p0 p1 p2
    have p0 := BX2.out 0 _ rfl
    have p1 := BX2.out 1 _ rfl
    have p2 := BX2.out 2 _ rfl
    go_wp2_with fail
    refine (spec_l07Twice _ p.locks _ ((HP.out.belowA H2.out).ls)).mono ?_
    rintro e w3 ⟨rfl, qt⟩
    have bq := qt.below
    clear qt
    have H3 := Lib.hid (below_then H2.out (bq))
    have BX3 := Lib.hid (BX2.out.below (bq))
    rw [HL.out]
    clear bq p0 p1 p2
    have p0 := BX3.out 0 _ rfl
    have p1 := BX3.out 1 _ rfl
    have p2 := BX3.out 2 _ rfl
    go_wp2_with fail
    refine (spec_l07Procs p ⟨gA, gc, lA, lc, pA, pc⟩ _ (HP.out.belowA H3.out) (by omega)).mono ?_
    rintro e w4 ⟨An, cn, rfl, ownn⟩
    have H4 := Lib.hid (below_then H3.out (ownn.2))
    have BX4 := Lib.hid (BX3.out.below (ownn.2))
    have ON := Lib.hid ownn
    clear ownn p0 p1 p2
    have p0 := BX4.out 0 _ rfl
    have p1 := BX4.out 1 _ rfl
    have p2 := BX4.out 2 _ rfl
    go_wp2_with fail
    refine (spec_l07Twice _ (pnames p.procs) _ (ON.out.isStrs)).mono ?_
    rintro e w5 ⟨rfl, qt⟩
    have bq := qt.below
    clear qt
    have H5 := Lib.hid (below_then H4.out (bq))
    have BX5 := Lib.hid (BX4.out.below (bq))
    rw [HN.out]
    clear bq p0 p1 p2
    have p0 := BX5.out 0 _ rfl
    have p1 := BX5.out 1 _ rfl
    have p2 := BX5.out 2 _ rfl
    go_wp2_with fail
    refine (spec_UnknownIn p ⟨gA, gc, lA, lc, pA, pc⟩ _ (HP.out.belowA H5.out) htot).mono ?_
    rintro e w6 ⟨vu, rfl, ownu⟩
    have H6 := Lib.hid (below_then H5.out (ownu.2))
    have BX6 := Lib.hid (BX5.out.below (ownu.2))
    obtain ⟨Au, cu, rfl, _⟩ := ownu.slice
    clear ownu p0 p1 p2
    have p0 := BX6.out 0 _ rfl
    have p1 := BX6.out 1 _ rfl
    have p2 := BX6.out 2 _ rfl
    go_wp2_with fail
    go_ret
    exact ⟨ret_int F.out.symm, H6.out⟩
  have HU := Lib.hid hu
  have HUX : Hid (¬ 0 < (unkR p).length) := Lib.hid (by omega)
  clear hu
  cases h1 : hasS (pnames p.procs) mainB with
  | false =>
    have F : Hid (faultR p = 4) := Lib.hid (by unfold faultR; rw [if_neg HF0.out, if_neg HGX.out, if_neg HLX.out, if_neg HNX.out, if_neg HUX.out, if_pos h1])
    have HM : Hid (decide (placeS (pnames p.procs) mainB < 0) = true) := Lib.hid (by rw [place_neg, h1]; rfl)
    clear h1
    go_enter Try.func8, Try.ntmps8
    go_wp2_with fail
    refine (spec_ProgOk p ⟨gA, gc, lA, lc, pA, pc⟩ _ (HP.out.belowA (by repeat' first|exact .refl _ _|exact Nat.le_refl _|refine .alloc ?_ ?_ _|refine .setCell ?_ ?_ _|refine .drew ?_|refine below_drewN ?_ _|assumption|(simp;done)|(simp;omega))) htot).mono ?_
    rintro e w1 ⟨rfl, b1⟩
    have H1 : Hid (Below w.heap.size w w1) := Lib.hid (Below.trans (by repeat' first|exact .refl _ _|exact Nat.le_refl _|refine .alloc ?_ ?_ _|refine .setCell ?_ ?_ _|refine .drew ?_|refine below_drewN ?_ _|assumption|(simp;done)|(simp;omega)) (b1.mono (by simp)))
    have BX1 : Hid (BoxB w1 w.heap.size [.slice gA p.globals.length gc, .slice lA p.locks.length lc, .slice pA p.procs.length pc]) := Lib.hid (BoxB.below (BoxB.lit rfl) b1)
    rw [HK.out]
    clear b1
    have p0 := BX1.out 0 _ rfl
    have p1 := BX1.out 1 _ rfl
    have p2 := BX1.out 2 _ rfl
    go_wp2_with fail
    refine (spec_l07Twice _ p.globals _ ((HP.out.belowA H1.out).gs)).mono ?_
    rintro e w2 ⟨rfl, qt⟩
    have bq := qt.below
    clear qt
    have H2 := Lib.hid (below_then H1.out (bq))
    have BX2 := Lib.hid (BX1.out.below (bq))
    rw [HG.out]
    clear bq p0 p1 p2
    have p0 := BX2.out 0 _ rfl
    have p1 := BX2.out 1 _ rfl
    have p2 := BX2.out 2 _ rfl
    go_wp2_with fail
    refine (spec_l07Twice _ p.locks _ ((HP.out.belowA H2.out).ls)).mono ?_
    rintro e w3 ⟨rfl, qt⟩
    have bq := qt.below
    clear qt
    have H3 := Lib.hid (below_then H2.out (bq))
    have BX3 := Lib.hid (BX2.out.below (bq))
    rw [HL.out]
    clear bq p0 p1 p2
    have p0 := BX3.out 0 _ rfl
    have p1 := BX3.out 1 _ rfl
    have p2 := BX3.out 2 _ rfl
    go_wp2_with fail
    refine (spec_l07Procs p ⟨gA, gc, lA, lc, pA, pc⟩ _ (HP.out.belowA H3.out) (by omega)).mono ?_
    rintro e w4 ⟨An, cn, rfl, ownn⟩
    have H4 := Lib.hid (below_then H3.out (ownn.2))
    have BX4 := Lib.hid (BX3.out.below (ownn.2))
    have ON := Lib.hid ownn
    clear ownn p0 p1 p2
    have p0 := BX4.out 0 _ rfl
    have p1 := BX4.out 1 _ rfl
    have p2 := BX4.out 2 _ rfl
    go_wp2_with fail
    refine (spec_l07Twice _ (pnames p.procs) _ (ON.out.isStrs)).mono ?_
    rintro e w5 ⟨rfl, qt⟩
    have bq := qt.below
    clear qt
    have H5 := Lib.hid (below_then H4.out (bq))
    have BX5 := Lib.hid (BX4.out.below (bq))
    rw [HN.out]
    clear bq p0 p1 p2
    have p0 := BX5.out 0 _ rfl
    have p1 := BX5.out 1 _ rfl
    have p2 := BX5.out 2 _ rfl
    go_wp2_with fail
    refine (spec_UnknownIn p ⟨gA, gc, lA, lc, pA, pc⟩ _ (HP.out.belowA H5.out) htot).mono ?_
    rintro e w6 ⟨vu, rfl, ownu⟩
    have H6 := Lib.hid (below_then H5.out (ownu.2))
    have BX6 := Lib.hid (BX5.out.below (ownu.2))
    obtain ⟨Au, cu, rfl, _⟩ := ownu.slice
    clear ownu p0 p1 p2
    have p0 := BX6.out 0 _ rfl
    have p1 := BX6.out 1 _ rfl
    have p2 := BX6.out 2 _ rfl
    rw [HU.out]
    go_wp2_with fail
    refine (spec_ProcAt p ⟨gA, gc, lA, lc, pA, pc⟩ mainB _ (HP.out.belowA H6.out)).mono ?_
    rintro e w7 ⟨rfl, bp⟩
    have H7 := Lib.hid (below_then H6.out (bp))
    have BX7 := Lib.hid (BX6.out.below (bp))
    clear bp p0 p1 p2
    have hm := HM.out
    go_wp2_with fail
    go_ret
    exact ⟨ret_int F.out.symm, H7.out⟩
  | true =>
    have F : Hid (faultR p = 0) := Lib.hid (by unfold faultR; rw [if_neg HF0.out, if_neg HGX.out, if_neg HLX.out, if_neg HNX.out, if_neg HUX.out, if_neg (by rw [h1]; decide)])
    have HM : Hid (decide (placeS (pnames p.procs) mainB < 0) = false) := Lib.hid (by rw [place_neg, h1]; rfl)
    clear h1
    go_enter Try.func8, Try.ntmps8
    go_wp2_with fail
    refine (spec_ProgOk p ⟨gA, gc, lA, lc, pA, pc⟩ _ (HP.out.belowA (by repeat' first|exact .refl _ _|exact Nat.le_refl _|refine .alloc ?_ ?_ _|refine .setCell ?_ ?_ _|refine .drew ?_|refine below_drewN ?_ _|assumption|(simp;done)|(simp;omega))) htot).mono ?_
    rintro e w1 ⟨rfl, b1⟩
    have H1 : Hid (Below w.heap.size w w1) := Lib.hid (Below.trans (by repeat' first|exact .refl _ _|exact Nat.le_refl _|refine .alloc ?_ ?_ _|refine .setCell ?_ ?_ _|refine .drew ?_|refine below_drewN ?_ _|assumption|(simp;done)|(simp;omega)) (b1.mono (by simp)))
    have BX1 : Hid (BoxB w1 w.heap.size [.slice gA p.globals.length gc, .slice lA p.locks.length lc, .slice pA p.procs.length pc]) := Lib.hid (BoxB.below (BoxB.lit rfl) b1)
    rw [HK.out]
    clear b1
    have p0 := BX1.out 0 _ rfl
    have p1 := BX1.out 1 _ rfl
    have p2 := BX1.out 2 _ rfl
    go_wp2_with fail
    refine (spec_l07Twice _ p.globals _ ((HP.out.belowA H1.out).gs)).mono ?_
    rintro e w2 ⟨rfl, qt⟩
    have bq := qt.below
    clear qt
    have H2 := Lib.hid (below_then H1.out (bq))
    have BX2 := Lib.hid (BX1.out.below (bq))
    rw [HG.out]
    clear bq p0 p1 p2
    have p0 := BX2.out 0 _ rfl
    have p1 := BX2.out 1 _ rfl
    have p2 := BX2.out 2 _ rfl
    go_wp2_with fail
    refine (spec_l07Twice _ p.locks _ ((HP.out.belowA H2.out).ls)).mono ?_
    rintro e w3 ⟨rfl, qt⟩
    have bq := qt.below
    clear qt
    have H3 := Lib.hid (below_then H2.out (bq))
    have BX3 := Lib.hid (BX2.out.below (bq))
    rw [HL.out]
    clear bq p0 p1 p2
    have p0 := BX3.out 0 _ rfl
    have p1 := BX3.out 1 _ rfl
    have p2 := BX3.out 2 _ rfl
    go_wp2_with fail
    refine (spec_l07Procs p ⟨gA, gc, lA, lc, pA, pc⟩ _ (HP.out.belowA H3.out) (by omega)).mono ?_
    rintro e w4 ⟨An, cn, rfl, ownn⟩
    have H4 := Lib.hid (below_then H3.out (ownn.2))
    have BX4 := Lib.hid (BX3.out.below (ownn.2))
    have ON := Lib.hid ownn
    clear ownn p0 p1 p2
    have p0 := BX4.out 0 _ rfl
    have p1 := BX4.out 1 _ rfl
    have p2 := BX4.out 2 _ rfl
    go_wp2_with fail
    refine (spec_l07Twice _ (pnames p.procs) _ (ON.out.isStrs)).mono ?_
    rintro e w5 ⟨rfl, qt⟩
    have bq := qt.below
    clear qt
    have H5 := Lib.hid (below_then H4.out (bq))
    have BX5 := Lib.hid (BX4.out.below (bq))
    rw [HN.out]
    clear bq p0 p1 p2
    have p0 := BX5.out 0 _ rfl
    have p1 := BX5.out 1 _ rfl
    have p2 := BX5.out 2 _ rfl
    go_wp2_with fail
    refine (spec_UnknownIn p ⟨gA, gc, lA, lc, pA, pc⟩ _ (HP.out.belowA H5.out) htot).mono ?_
    rintro e w6 ⟨vu, rfl, ownu⟩
    have H6 := Lib.hid (below_then H5.out (ownu.2))
    have BX6 := Lib.hid (BX5.out.below (ownu.2))
    obtain ⟨Au, cu, rfl, _⟩ := ownu.slice
    clear ownu p0 p1 p2
    have p0 := BX6.out 0 _ rfl
    have p1 := BX6.out 1 _ rfl
    have p2 := BX6.out 2 _ rfl
    rw [HU.out]
    go_wp2_with fail
    refine (spec_ProcAt p ⟨gA, gc, lA, lc, pA, pc⟩ mainB _ (HP.out.belowA H6.out)).mono ?_
    rintro e w7 ⟨rfl, bp⟩
    have H7 := Lib.hid (below_then H6.out (bp))
    have BX7 := Lib.hid (BX6.out.below (bp))
    clear bp p0 p1 p2
    have hm := HM.out
    go_wp2_with fail
    go_ret
    exact ⟨ret_int F.out.symm, H7.out⟩
set_option maxHeartbeats 1600000 in
theorem impl_ProgFault (p : Pg) (x : V3) (w : World) (hp : PgIs w x p) (htot : totPg p ≤ 1048576) :
    Calls Try.prog 7 #[x.val p] w fun e w' => e = .returned (.int .i64 (faultR p)) ∧ Below w.heap.size w w' := by
  have HP := Lib.hid hp
  obtain ⟨gA, gc, lA, lc, pA, pc⟩ := x
  unfold V3.val
  simp only
  clear hp
  cases hk : okPg p with
  | false =>
    have F : Hid (faultR p = 1) := Lib.hid (by unfold faultR; rw [if_pos hk])
    have HK := Lib.hid hk
    clear hk
    go_enter Try.func7, Try.ntmps7
    go_wp2_with fail
    refine (impl_ProgOk p ⟨gA, gc, lA, lc, pA, pc⟩ _ (HP.out.belowA (by repeat' first|exact .refl _ _|exact Nat.le_refl _|refine .alloc ?_ ?_ _|refine .setCell ?_ ?_ _|refine .drew ?_|refine below_drewN ?_ _|assumption|(simp;done)|(simp;omega))) htot).mono ?_
    rintro e w1 ⟨rfl, b1⟩
    have H1 : Hid (Below w.heap.size w w1) := Lib.hid (Below.trans (by repeat' first|exact .refl _ _|exact Nat.le_refl _|refine .alloc ?_ ?_ _|refine .setCell ?_ ?_ _|refine .drew ?_|refine below_drewN ?_ _|assumption|(simp;done)|(simp;omega)) (b1.mono (by simp)))
    have BX1 : Hid (BoxB w1 w.heap.size [.slice gA p.globals.length gc, .slice lA p.locks.length lc, .slice pA p.procs.length pc]) := Lib.hid (BoxB.below (BoxB.lit rfl) b1)
    rw [HK.out]
    clear b1
    go_wp2_with fail
    go_ret
    exact ⟨ret_int F.out.symm, H1.out⟩
  | true =>
  have HK := Lib.hid hk
  have hpn := (okPg_procs hk).1
  clear hk
  have hf0 : ¬ okPg p = false := by rw [HK.out]; decide
  have HF0 := Lib.hid hf0
  clear hf0
  cases h1 : twiceS p.globals with
  | true =>
    have F : Hid (faultR p = 2) := Lib.hid (by unfold faultR; rw [if_neg HF0.out, if_pos h1])
    have HG := Lib.hid h1
    clear h1
    go_enter Try.func7, Try.ntmps7
    go_wp2_with fail
    refine (impl_ProgOk p ⟨gA, gc, lA, lc, pA, pc⟩ _ (HP.out.belowA (by repeat' first|exact .refl _ _|exact Nat.le_refl _|refine .alloc ?_ ?_ _|refine .setCell ?_ ?_ _|refine .drew ?_|refine below_drewN ?_ _|assumption|(simp;done)|(simp;omega))) htot).mono ?_
    rintro e w1 ⟨rfl, b1⟩
    have H1 : Hid (Below w.heap.size w w1) := Lib.hid (Below.trans (by repeat' first|exact .refl _ _|exact Nat.le_refl _|refine .alloc ?_ ?_ _|refine .setCell ?_ ?_ _|refine .drew ?_|refine below_drewN ?_ _|assumption|(simp;done)|(simp;omega)) (b1.mono (by simp)))
    have BX1 : Hid (BoxB w1 w.heap.size [.slice gA p.globals.length gc, .slice lA p.locks.length lc, .slice pA p.procs.length pc]) := Lib.hid (BoxB.below (BoxB.lit rfl) b1)
    rw [HK.out]
    clear b1
    have p0 := BX1.out 0 _ rfl
    have p1 := BX1.out 1 _ rfl
    have p2 := BX1.out 2 _ rfl
    go_wp2_with fail
    refine (impl_procNames p ⟨gA, gc, lA, lc, pA, pc⟩ _ (HP.out.belowA H1.out) (by omega)).mono ?_
    rintro e w2 ⟨An, cn, rfl, ownn⟩
    have H2 := Lib.hid (below_then H1.out (ownn.2))
    have BX2 := Lib.hid (BX1.out.below (ownn.2))
    have ON := Lib.hid ownn
    clear ownn p0 p1 p2
    have p0 := BX2.out 0 _ rfl
    have p1 := BX2.out 1 _ rfl
    have p2 := BX2.out 2 _ rfl
    go_wp2_with fail
    refine (impl_hasTwice _ p.globals _ ((HP.out.belowA H2.out).gs)).mono ?_
    rintro e w9 ⟨rfl, rfl⟩
    rw [HG.out]
    go_wp2_with fail
    go_ret
    exact ⟨ret_int F.out.symm, H2.out⟩
  | false =>
  have HG := Lib.hid h1
  have HGX : Hid (¬ twiceS p.globals = true) := Lib.hid (by rw [h1]; decide)
  clear h1
  cases h1 : twiceS p.locks with
  | true =>
    have F : Hid (faultR p = 2) := Lib.hid (by unfold faultR; rw [if_neg HF0.out, if_neg HGX.out, if_pos h1])
    have HL := Lib.hid h1
    clear h1
    go_enter Try.func7, Try.ntmps7
    go_wp2_with fail
    refine (impl_ProgOk p ⟨gA, gc, lA, lc, pA, pc⟩ _ (HP.out.belowA (by repeat' first|exact .refl _ _|exact Nat.le_refl _|refine .alloc ?_ ?_ _|refine .setCell ?_ ?_ _|refine .drew ?_|refine below_drewN ?_ _|assumption|(simp;done)|(simp;omega))) htot).mono ?_
    rintro e w1 ⟨rfl, b1⟩
    have H1 : Hid (Below w.heap.size w w1) := Lib.hid (Below.trans (by repeat' first|exact .refl _ _|exact Nat.le_refl _|refine .alloc ?_ ?_ _|refine .setCell ?_ ?_ _|refine .drew ?_|refine below_drewN ?_ _|assumption|(simp;done)|(simp;omega)) (b1.mono (by simp)))
    have BX1 : Hid (BoxB w1 w.heap.size [.slice gA p.globals.length gc, .slice lA p.locks.length lc, .slice pA p.procs.length pc]) := Lib.hid (BoxB.below (BoxB.lit rfl) b1)
    rw [HK.out]
    clear b1
    have p0 := BX1.out 0 _ rfl
    have p1 := BX1.out 1 _ rfl
    have p2 := BX1.out 2 _ rfl
    go_wp2_with fail
    refine (impl_procNames p ⟨gA, gc, lA, lc, pA, pc⟩ _ (HP.out.belowA H1.out) (by omega)).mono ?_
    rintro e w2 ⟨An, cn, rfl, ownn⟩
    have H2 := Lib.hid (below_then H1.out (ownn.2))
    have BX2 := Lib.hid (BX1.out.below (ownn.2))
    have ON := Lib.hid ownn
    clear ownn p0 p1 p2
    have p0 := BX2.out 0 _ rfl
    have p1 := BX2.out 1 _ rfl
    have p2 := BX2.out 2 _ rfl
    go_wp2_with fail
    refine (impl_hasTwice _ p.globals _ ((HP.out.belowA H2.out).gs)).mono ?_
    rintro e w9 ⟨rfl, rfl⟩
    rw [HG.out]
    go_wp2_with fail
    refine (impl_hasTwice _ p.locks _ ((HP.out.belowA H2.out).ls)).mono ?_
    rintro e w9 ⟨rfl, rfl⟩
    rw [HL.out]
    go_wp2_with fail
    go_ret
    exact ⟨ret_int F.out.symm, H2.out⟩
  | false =>
  have HL := Lib.hid h1
  have HLX : Hid (¬ twiceS p.locks = true) := Lib.hid (by rw [h1]; decide)
  clear h1
  cases h1 : twiceS (pnames p.procs) with
  | true =>
    have F : Hid (faultR p = 2) := Lib.hid (by unfold faultR; rw [if_neg HF0.out, if_neg HGX.out, if_neg HLX.out, if_pos h1])
    have HN := Lib.hid h1
    clear h1
    go_enter Try.func7, Try.ntmps7
    go_wp2_with fail
    refine (impl_ProgOk p ⟨gA, gc, lA, lc, pA, pc⟩ _ (HP.out.belowA (by repeat' first|exact .refl _ _|exact Nat.le_refl _|refine .alloc ?_ ?_ _|refine .setCell ?_ ?_ _|refine .drew ?_|refine below_drewN ?_ _|assumption|(simp;done)|(simp;omega))) htot).mono ?_
    rintro e w1 ⟨rfl, b1⟩
    have H1 : Hid (Below w.heap.size w w1) := Lib.hid (Below.trans (by repeat' first|exact .refl _ _|exact Nat.le_refl _|refine .alloc ?_ ?_ _|refine .setCell ?_ ?_ _|refine .drew ?_|refine below_drewN ?_ _|assumption|(simp;done)|(simp;omega)) (b1.mono (by simp)))
    have BX1 : Hid (BoxB w1 w.heap.size [.slice gA p.globals.length gc, .slice lA p.locks.length lc, .slice pA p.procs.length pc]) := Lib.hid (BoxB.below (BoxB.lit rfl) b1)
    rw [HK.out]
    clear b1
    have p0 := BX1.out 0 _ rfl
    have p1 := BX1.out 1 _ rfl
    have p2 := BX1.out 2 _ rfl
    go_wp2_with fail
    refine (impl_procNames p ⟨gA, gc, lA, lc, pA, pc⟩ _ (HP.out.belowA H1.out) (by omega)).mono ?_
    rintro e w2 ⟨An, cn, rfl, ownn⟩
    have H2 := Lib.hid (below_then H1.out (ownn.2))
    have BX2 := Lib.hid (BX1.out.below (ownn.2))
    have ON := Lib.hid ownn
    clear ownn p0 p1 p2
    have p0 := BX2.out 0 _ rfl
    have p1 := BX2.out 1 _ rfl
    have p2 := BX2.out 2 _ rfl
    go_wp2_with fail
    refine (impl_hasTwice _ p.globals _ ((HP.out.belowA H2.out).gs)).mono ?_
    rintro e w9 ⟨rfl, rfl⟩
    rw [HG.out]
    go_wp2_with fail
    refine (impl_hasTwice _ p.locks _ ((HP.out.belowA H2.out).ls)).mono ?_
    rintro e w9 ⟨rfl, rfl⟩
    rw [HL.out]
    go_wp2_with fail
    refine (impl_hasTwice _ (pnames p.procs) _ (ON.out.isStrs)).mono ?_
    rintro e w9 ⟨rfl, rfl⟩
    rw [HN.out]
    go_wp2_with fail
    go_ret
    exact ⟨ret_int F.out.symm, H2.out⟩
  | false =>
  have HN := Lib.hid h1
  have HNX : Hid (¬ twiceS (pnames p.procs) = true) := Lib.hid (by rw [h1]; decide)
  clear h1
  rcases Nat.eq_zero_or_pos (unkR p).length with hu | hu
  case inr =>
    have F : Hid (faultR p = 3) := Lib.hid (by unfold faultR; rw [if_neg HF0.out, if_neg HGX.out, if_neg HLX.out, if_neg HNX.out, if_pos hu])
    have hu1 : (0 : Int) < ((unkR p).length : Int) := by omega
    have hu2 : decide ((0 : Int) < ((unkR p).length : Int)) = true := decide_eq_true hu1
    go_enter Try.func7, Try.ntmps7
    go_wp2_with fail
    refine (impl_ProgOk p ⟨gA, gc, lA, lc, pA, pc⟩ _ (HP.out.belowA (by repeat' first|exact .refl _ _|exact Nat.le_refl _|refine .alloc ?_ ?_ _|refine .setCell ?_ ?_ _|refine .drew ?_|refine below_drewN ?_ _|assumption|(simp;done)|(simp;omega))) htot).mono ?_
    rintro e w1 ⟨rfl, b1⟩
    have H1 : Hid (Below w.heap.size w w1) := Lib.hid (Below.trans (by repeat' first|exact .refl _ _|exact Nat.le_refl _|refine .alloc ?_ ?_ _|refine .setCell ?_ ?_ _|refine .drew ?_|refine below_drewN ?_ _|assumption|(simp;done)|(simp;omega)) (b1.mono (by simp)))
    have BX1 : Hid (BoxB w1 w.heap.size [.slice gA p.globals.length gc, .slice lA p.locks.length lc, .slice pA p.procs.length pc]) := Lib.hid (BoxB.below (BoxB.lit rfl) b1)
    rw [HK.out]
    clear b1
    have p0 := BX1.out 0 _ rfl
    have p1 := BX1.out 1 _ rfl
    have p2 := BX1.out 2 _ rfl
    go_wp2_with fail
    refine (impl_procNames p ⟨gA, gc, lA, lc, pA, pc⟩ _ (HP.out.belowA H1.out) (by omega)).mono ?_
    rintro e w2 ⟨An, cn, rfl, ownn⟩
    have H2 := Lib.hid (below_then H1.out (ownn.2))
    have BX2 := Lib.hid (BX1.out.below (ownn.2))
    have ON := Lib.hid ownn
    clear ownn p0 p1 p2
    have p0 := BX2.out 0 _ rfl
    have p1 := BX2.out 1 _ rfl
    have p2 := BX2.out 2 _ rfl
    go_wp2_with fail
    refine (impl_hasTwice _ p.globals _ ((HP.out.belowA H2.out).gs)).mono ?_
    rintro e w9 ⟨rfl, rfl⟩
    rw [HG.out]
    go_wp2_with fail
    refine (impl_hasTwice _ p.locks _ ((HP.out.belowA H2.out).ls)).mono ?_
    rintro e w9 ⟨rfl, rfl⟩
    rw [HL.out]
    go_wp2_with fail
    refine (impl_hasTwice _ (pnames p.procs) _ (ON.out.isStrs)).mono ?_
    rintro e w9 ⟨rfl, rfl⟩
    rw [HN.out]
    go_wp2_with fail
    refine (impl_unknownOf p ⟨gA, gc, lA, lc, pA, pc⟩ _ (HP.out.belowA H2.out) HK.out).mono ?_
    rintro e w3 ⟨vu, rfl, ownu⟩
    rw [← unkR_yes HK.out] at ownu
    have H3 := Lib.hid (below_then H2.out (ownu.2))
    have BX3 := Lib.hid (BX2.out.below (ownu.2))
    have ON2 := Lib.hid (ON.out.below ownu.2)
    obtain ⟨Au, cu, rfl, _⟩ := ownu.slice
    clear ownu p0 p1 p2
    have p0 := BX3.out 0 _ rfl
    have p1 := BX3.out 1 _ rfl
    have p2 := BX3.out 2 _ rfl
    go_wp2_with fail
    go_ret
    exact ⟨ret_int F.out.symm, H3.out⟩
  have HU := Lib.hid hu
  have HUX : Hid (¬ 0 < (unkR p).length) := Lib.hid (by omega)
  clear hu
  cases h1 : hasS (pnames p.procs) mainB with
  | false =>
    have F : Hid (faultR p = 4) := Lib.hid (by unfold faultR; rw [if_neg HF0.out, if_neg HGX.out, if_neg HLX.out, if_neg HNX.out, if_neg HUX.out, if_pos h1])
    have HM := Lib.hid h1
    clear h1
    go_enter Try.func7, Try.ntmps7
    go_wp2_with fail
    refine (impl_ProgOk p ⟨gA, gc, lA, lc, pA, pc⟩ _ (HP.out.belowA (by repeat' first|exact .refl _ _|exact Nat.le_refl _|refine .alloc ?_ ?_ _|refine .setCell ?_ ?_ _|refine .drew ?_|refine below_drewN ?_ _|assumption|(simp;done)|(simp;omega))) htot).mono ?_
    rintro e w1 ⟨rfl, b1⟩
    have H1 : Hid (Below w.heap.size w w1) := Lib.hid (Below.trans (by repeat' first|exact .refl _ _|exact Nat.le_refl _|refine .alloc ?_ ?_ _|refine .setCell ?_ ?_ _|refine .drew ?_|refine below_drewN ?_ _|assumption|(simp;done)|(simp;omega)) (b1.mono (by simp)))
    have BX1 : Hid (BoxB w1 w.heap.size [.slice gA p.globals.length gc, .slice lA p.locks.length lc, .slice pA p.procs.length pc]) := Lib.hid (BoxB.below (BoxB.lit rfl) b1)
    rw [HK.out]
    clear b1
    have p0 := BX1.out 0 _ rfl
    have p1 := BX1.out 1 _ rfl
    have p2 := BX1.out 2 _ rfl
    go_wp2_with fail
    refine (impl_procNames p ⟨gA, gc, lA, lc, pA, pc⟩ _ (HP.out.belowA H1.out) (by omega)).mono ?_
    rintro e w2 ⟨An, cn, rfl, ownn⟩
    have H2 := Lib.hid (below_then H1.out (ownn.2))
    have BX2 := Lib.hid (BX1.out.below (ownn.2))
    have ON := Lib.hid ownn
    clear ownn p0 p1 p2
    have p0 := BX2.out 0 _ rfl
    have p1 := BX2.out 1 _ rfl
    have p2 := BX2.out 2 _ rfl
    go_wp2_with fail
    refine (impl_hasTwice _ p.globals _ ((HP.out.belowA H2.out).gs)).mono ?_
    rintro e w9 ⟨rfl, rfl⟩
    rw [HG.out]
    go_wp2_with fail
    refine (impl_hasTwice _ p.locks _ ((HP.out.belowA H2.out).ls)).mono ?_
    rintro e w9 ⟨rfl, rfl⟩
    rw [HL.out]
    go_wp2_with fail
    refine (impl_hasTwice _ (pnames p.procs) _ (ON.out.isStrs)).mono ?_
    rintro e w9 ⟨rfl, rfl⟩
    rw [HN.out]
    go_wp2_with fail
    refine (impl_unknownOf p ⟨gA, gc, lA, lc, pA, pc⟩ _ (HP.out.belowA H2.out) HK.out).mono ?_
    rintro e w3 ⟨vu, rfl, ownu⟩
    rw [← unkR_yes HK.out] at ownu
    have H3 := Lib.hid (below_then H2.out (ownu.2))
    have BX3 := Lib.hid (BX2.out.below (ownu.2))
    have ON2 := Lib.hid (ON.out.below ownu.2)
    obtain ⟨Au, cu, rfl, _⟩ := ownu.slice
    clear ownu p0 p1 p2
    have p0 := BX3.out 0 _ rfl
    have p1 := BX3.out 1 _ rfl
    have p2 := BX3.out 2 _ rfl
    rw [HU.out]
    go_wp2_with fail
    refine (slices_Contains _ (pnames p.procs) mainB _ ON2.out.isStrs).mono ?_
    rintro e w9 ⟨rfl, rfl⟩
    rw [HM.out]
    go_wp2_with fail
    go_ret
    exact ⟨ret_int F.out.symm, H3.out⟩
  | true =>
    have F : Hid (faultR p = 0) := Lib.hid (by unfold faultR; rw [if_neg HF0.out, if_neg HGX.out, if_neg HLX.out, if_neg HNX.out, if_neg HUX.out, if_neg (by rw [h1]; decide)])
    have HM := Lib.hid h1
    clear h1
    go_enter Try.func7, Try.ntmps7
    go_wp2_with fail
    refine (impl_ProgOk p ⟨gA, gc, lA, lc, pA, pc⟩ _ (HP.out.belowA (by repeat' first|exact .refl _ _|exact Nat.le_refl _|refine .alloc ?_ ?_ _|refine .setCell ?_ ?_ _|refine .drew ?_|refine below_drewN ?_ _|assumption|(simp;done)|(simp;omega))) htot).mono ?_
    rintro e w1 ⟨rfl, b1⟩
    have H1 : Hid (Below w.heap.size w w1) := Lib.hid (Below.trans (by repeat' first|exact .refl _ _|exact Nat.le_refl _|refine .alloc ?_ ?_ _|refine .setCell ?_ ?_ _|refine .drew ?_|refine below_drewN ?_ _|assumption|(simp;done)|(simp;omega)) (b1.mono (by simp)))
    have BX1 : Hid (BoxB w1 w.heap.size [.slice gA p.globals.length gc, .slice lA p.locks.length lc, .slice pA p.procs.length pc]) := Lib.hid (BoxB.below (BoxB.lit rfl) b1)
    rw [HK.out]
    clear b1
    have p0 := BX1.out 0 _ rfl
    have p1 := BX1.out 1 _ rfl
    have p2 := BX1.out 2 _ rfl
    go_wp2_with fail
    refine (impl_procNames p ⟨gA, gc, lA, lc, pA, pc⟩ _ (HP.out.belowA H1.out) (by omega)).mono ?_
    rintro e w2 ⟨An, cn, rfl, ownn⟩
    have H2 := Lib.hid (below_then H1.out (ownn.2))
    have BX2 := Lib.hid (BX1.out.below (ownn.2))
    have ON := Lib.hid ownn
    clear ownn p0 p1 p2
    have p0 := BX2.out 0 _ rfl
    have p1 := BX2.out 1 _ rfl
    have p2 := BX2.out 2 _ rfl
    go_wp2_with fail
    refine (impl_hasTwice _ p.globals _ ((HP.out.belowA H2.out).gs)).mono ?_
    rintro e w9 ⟨rfl, rfl⟩
    rw [HG.out]
    go_wp2_with fail
    refine (impl_hasTwice _ p.locks _ ((HP.out.belowA H2.out).ls)).mono ?_
    rintro e w9 ⟨rfl, rfl⟩
    rw [HL.out]
    go_wp2_with fail
    refine (impl_hasTwice _ (pnames p.procs) _ (ON.out.isStrs)).mono ?_
    rintro e w9 ⟨rfl, rfl⟩
    rw [HN.out]
    go_wp2_with fail
    refine (impl_unknownOf p ⟨gA, gc, lA, lc, pA, pc⟩ _ (HP.out.belowA H2.out) HK.out).mono ?_
    rintro e w3 ⟨vu, rfl, ownu⟩
    rw [← unkR_yes HK.out] at ownu
    have H3 := Lib.hid (below_then H2.out (ownu.2))
    have BX3 := Lib.hid (BX2.out.below (ownu.2))
    have ON2 := Lib.hid (ON.out.below ownu.2)
    obtain ⟨Au, cu, rfl, _⟩ := ownu.slice
    clear ownu p0 p1 p2
    have p0 := BX3.out 0 _ rfl
    have p1 := BX3.out 1 _ rfl
    have p2 := BX3.out 2 _ rfl
    rw [HU.out]
    go_wp2_with fail
    refine (slices_Contains _ (pnames p.procs) mainB _ ON2.out.isStrs).mono ?_
    rintro e w9 ⟨rfl, rfl⟩
    rw [HM.out]
    go_wp2_with fail
    go_ret
    exact ⟨ret_int F.out.symm, H3.out⟩
end Go.Proofs.Ytadcebdhgocmhaa
