/- Several texts in one: SignAt. -/
import Derived.Test.YtdanlgmpgdipnaaDoorKd3
import Derived.Test.YtdanlgmpgdipnaaDoorKd9
import Derived.Deep.RegionHeld3
import Derived.Deep.CutRange
namespace Go.Proofs.YtdanlgmpgdipnaaDoor
open Go.RowKit
set_option linter.unusedVariables false


theorem okAt_split {s : ByteArray} {i : Nat} (h : i < s.size) : okAt s i = (smallB (s[i].toNat : Int) || figB (s[i].toNat : Int)) := by rw [okAt_lt h, okC_or]
set_option maxHeartbeats 800000 in
theorem spec_l02Run (s : ByteArray) (i : Nat) (hi : i ≤ s.size) (hs : s.size ≤ 6000) (w : World) :
    Calls Tryd.prog 40 #[.string s, .int .i64 (i : Int)] w fun e w' => e = .returned (.int .i64 (runE s i : Int)) ∧ w = w' := by
  go_enter Tryd.func40, Tryd.ntmps40
  go_wp2_with fail
  go_loopw [1] (fun iv wr => ∃ j : Nat, j ≤ s.size ∧ iv = .int .i64 (j : Int) ∧ wr = w ∧ Hid (runE s j = runE s i)) (fun iv _ => s.size - (intOf iv).toNat)
  case atStart => exact ⟨i, hi, rfl, rfl, Lib.hid rfl⟩
  case round =>
    obtain ⟨j, hj, rfl, rfl, HR⟩ := hrel
    by_cases hlt : j < s.size
    · have h0j : (0 : Int) ≤ (j : Int) := by omega
      have h1j : (j : Int) < (s.size : Int) := by omega
      have HO := Lib.hid (okAt_split hlt)
      cases c1 : smallB (s[j].toNat : Int)
      · cases c2 : figB (s[j].toNat : Int)
        · have HE : Hid (runE s i = j) := Lib.hid (by rw [← HR.out, runE_no (by rw [HO.out, c1, c2]; rfl)])
          go_wp2_with (first | (go_at_call 39; refine (spec_l02Letter _ _).mono ?_; rintro e w' ⟨rfl, rfl⟩) | (go_at_call 42; refine (spec_l02Figure _ _).mono ?_; rintro e w' ⟨rfl, rfl⟩))
          go_ret
          exact ⟨ret_int (by rw [HE.out]), rfl⟩
        · have HE : Hid (runE s (j + 1) = runE s i) := Lib.hid (by rw [← HR.out, runE_yes (i := j) (by rw [HO.out, c1, c2]; rfl)])
          go_wp2_with (first | (go_at_call 39; refine (spec_l02Letter _ _).mono ?_; rintro e w' ⟨rfl, rfl⟩) | (go_at_call 42; refine (spec_l02Figure _ _).mono ?_; rintro e w' ⟨rfl, rfl⟩))
          go_roundw
          case rel => exact ⟨j + 1, by omega, by go_num, (by first | rfl | trivial), HE⟩
          case measure => simp [intOf]; omega
      · have HE : Hid (runE s (j + 1) = runE s i) := Lib.hid (by rw [← HR.out, runE_yes (i := j) (by rw [HO.out, c1]; rfl)])
        go_wp2_with (first | (go_at_call 39; refine (spec_l02Letter _ _).mono ?_; rintro e w' ⟨rfl, rfl⟩) | (go_at_call 42; refine (spec_l02Figure _ _).mono ?_; rintro e w' ⟨rfl, rfl⟩))
        go_roundw
        case rel => exact ⟨j + 1, by omega, by go_num, (by first | rfl | trivial), HE⟩
        case measure => simp [intOf]; omega
    · have h1j : ¬ (j : Int) < (s.size : Int) := by omega
      have HE : Hid (runE s i = j) := Lib.hid (by rw [← HR.out, runE_no (okAt_ge hlt)])
      go_wp2_with fail
      go_ret
      exact ⟨ret_int (by rw [HE.out]), rfl⟩
--WALK--
set_option maxHeartbeats 1600000 in
theorem impl_signAt_small (s : ByteArray) (i : Nat) (h : i < s.size) (hs : s.size ≤ 6000) (w : World) (hsm : smallB (s[i].toNat : Int) = true) :
    Calls Tryd.prog 48 #[.string s, .int .i64 (i : Int)] w fun e w' => e = .returned (.tuple #[.agg #[.int .i64 1, .string (s.extract i (runE s i)), .int .i64 (i : Int)], .bool (decide (runE s i - i ≤ 12))]) ∧ Below w.heap.size w w' := by
  have h0i : (0 : Int) ≤ (i : Int) := by omega
  have h1i : (i : Int) < (s.size : Int) := by omega
  have RS : Hid (runE s (i + 1) = runE s i) := Lib.hid (runE_yes (by rw [okAt_split h, hsm]; rfl)).symm
  go_enter Tryd.func48, Tryd.ntmps48
  go_upto_region 3 with (first | (go_at_call 58; refine (impl_isSmall _ _).mono ?_; rintro e w' ⟨rfl, rfl⟩) | (go_at_call 59; refine (impl_isFigure _ _).mono ?_; rintro e w' ⟨rfl, rfl⟩))
  go_loopw [6] (fun iv wr => ∃ j : Nat, i < j ∧ j ≤ s.size ∧ iv = .int .i64 (j : Int) ∧ wr = w.alloc (.cells #[.int .i64 0, .string ⟨#[]⟩, .int .i64 0] 62) ∧ Hid (runE s j = runE s i)) (fun iv _ => s.size - (intOf iv).toNat)
  case atStart => exact ⟨i + 1, by omega, by omega, by go_num, rfl, RS⟩
  case round =>
    obtain ⟨j, hij, hj, rfl, rfl, HR⟩ := hrel
    by_cases hlt : j < s.size
    · have h0j : (0 : Int) ≤ (j : Int) := by omega
      have h1j : (j : Int) < (s.size : Int) := by omega
      have HO := Lib.hid (okAt_split hlt)
      cases c1 : smallB (s[j].toNat : Int)
      · cases c2 : figB (s[j].toNat : Int)
        · have HE : Hid (runE s i = j) := Lib.hid (by rw [← HR.out, runE_no (by rw [HO.out, c1, c2]; rfl)])
          have hle : i ≤ j := by omega
          have hsz : (s.extract i j).size = j - i := by simp; omega
          clear hsz
          go_wp2_with (first | (go_at_call 58; refine (impl_isSmall _ _).mono ?_; rintro e w' ⟨rfl, rfl⟩) | (go_at_call 59; refine (impl_isFigure _ _).mono ?_; rintro e w' ⟨rfl, rfl⟩))
          refine bodyPost_ret (v := .tuple #[.agg #[.int .i64 1, .string (s.extract i j), .int .i64 (i : Int)], .bool (decide (((j - i : Nat) : Int) ≤ 12))]) (by simp [results, Tryd.results48, go_sem]) rfl ?_
          rw [HE.out, show decide (((j - i : Nat) : Int) ≤ 12) = decide (j - i ≤ 12) from decide_eq_decide.2 (by omega)]
          exact ⟨rfl, (by repeat' (first | exact Below.refl _ _ | exact Nat.le_refl _ | (refine Below.alloc ?_ ?_ _) | (refine Below.setCell ?_ ?_ _) | (refine Below.drew ?_) | (refine below_drewN ?_ _) | assumption | (simp; done) | (simp; omega)))⟩
        · have HE : Hid (runE s (j + 1) = runE s i) := Lib.hid (by rw [← HR.out, runE_yes (i := j) (by rw [HO.out, c1, c2]; rfl)])
          go_wp2_with (first | (go_at_call 58; refine (impl_isSmall _ _).mono ?_; rintro e w' ⟨rfl, rfl⟩) | (go_at_call 59; refine (impl_isFigure _ _).mono ?_; rintro e w' ⟨rfl, rfl⟩))
          go_roundw
          case rel => exact ⟨j + 1, by omega, by omega, by go_num, (by first | rfl | trivial), HE⟩
          case measure => simp [intOf]; omega
      · have HE : Hid (runE s (j + 1) = runE s i) := Lib.hid (by rw [← HR.out, runE_yes (i := j) (by rw [HO.out, c1]; rfl)])
        go_wp2_with (first | (go_at_call 58; refine (impl_isSmall _ _).mono ?_; rintro e w' ⟨rfl, rfl⟩) | (go_at_call 59; refine (impl_isFigure _ _).mono ?_; rintro e w' ⟨rfl, rfl⟩))
        go_roundw
        case rel => exact ⟨j + 1, by omega, by omega, by go_num, (by first | rfl | trivial), HE⟩
        case measure => simp [intOf]; omega
    · have h1j : ¬ (j : Int) < (s.size : Int) := by omega
      have HE : Hid (runE s i = j) := Lib.hid (by rw [← HR.out, runE_no (okAt_ge hlt)])
      have hle : i ≤ j := by omega
      have hsz : (s.extract i j).size = j - i := by simp; omega
      clear hsz
      go_wp2_with (first | (go_at_call 58; refine (impl_isSmall _ _).mono ?_; rintro e w' ⟨rfl, rfl⟩) | (go_at_call 59; refine (impl_isFigure _ _).mono ?_; rintro e w' ⟨rfl, rfl⟩))
      refine bodyPost_ret (v := .tuple #[.agg #[.int .i64 1, .string (s.extract i j), .int .i64 (i : Int)], .bool (decide (((j - i : Nat) : Int) ≤ 12))]) (by simp [results, Tryd.results48, go_sem]) rfl ?_
      rw [HE.out, show decide (((j - i : Nat) : Int) ≤ 12) = decide (j - i ≤ 12) from decide_eq_decide.2 (by omega)]
      exact ⟨rfl, (by repeat' (first | exact Below.refl _ _ | exact Nat.le_refl _ | (refine Below.alloc ?_ ?_ _) | (refine Below.setCell ?_ ?_ _) | (refine Below.drew ?_) | (refine below_drewN ?_ _) | assumption | (simp; done) | (simp; omega)))⟩
set_option maxHeartbeats 1600000 in
theorem impl_signAt_fig (s : ByteArray) (i : Nat) (h : i < s.size) (hs : s.size ≤ 6000) (w : World) (hsm : smallB (s[i].toNat : Int) = false) (hfg : figB (s[i].toNat : Int) = true) (tab : TabW w) :
    Calls Tryd.prog 48 #[.string s, .int .i64 (i : Int)] w fun e w' => e = .returned (.tuple #[.agg #[.int .i64 2, .string (s.extract i (runE s i)), .int .i64 (i : Int)], .bool (readD (s.extract i (runE s i))).2]) ∧ Below w.heap.size w w' := by
  have h0i : (0 : Int) ≤ (i : Int) := by omega
  have h1i : (i : Int) < (s.size : Int) := by omega
  have RS : Hid (runE s (i + 1) = runE s i) := Lib.hid (runE_yes (by rw [okAt_split h, hsm, hfg]; rfl)).symm
  have TB := Lib.hid tab
  clear tab
  go_enter Tryd.func48, Tryd.ntmps48
  go_upto_region 3 with (first | (go_at_call 58; refine (impl_isSmall _ _).mono ?_; rintro e w' ⟨rfl, rfl⟩) | (go_at_call 59; refine (impl_isFigure _ _).mono ?_; rintro e w' ⟨rfl, rfl⟩))
  go_loopw [6] (fun iv wr => ∃ j : Nat, i < j ∧ j ≤ s.size ∧ iv = .int .i64 (j : Int) ∧ wr = w.alloc (.cells #[.int .i64 0, .string ⟨#[]⟩, .int .i64 0] 62) ∧ Hid (runE s j = runE s i)) (fun iv _ => s.size - (intOf iv).toNat)
  case atStart => exact ⟨i + 1, by omega, by omega, by go_num, rfl, RS⟩
  case round =>
    obtain ⟨j, hij, hj, rfl, rfl, HR⟩ := hrel
    by_cases hlt : j < s.size
    · have h0j : (0 : Int) ≤ (j : Int) := by omega
      have h1j : (j : Int) < (s.size : Int) := by omega
      have HO := Lib.hid (okAt_split hlt)
      cases c1 : smallB (s[j].toNat : Int)
      · cases c2 : figB (s[j].toNat : Int)
        · have HE : Hid (runE s i = j) := Lib.hid (by rw [← HR.out, runE_no (by rw [HO.out, c1, c2]; rfl)])
          have hle : i ≤ j := by omega
          go_wp2_with (first | (go_at_call 58; refine (impl_isSmall _ _).mono ?_; rintro e w' ⟨rfl, rfl⟩) | (go_at_call 59; refine (impl_isFigure _ _).mono ?_; rintro e w' ⟨rfl, rfl⟩))
          refine (impl_ReadDecimal (s.extract i j) _ (TB.out.below (by repeat' (first | exact Below.refl _ _ | exact Nat.le_refl _ | (refine Below.alloc ?_ ?_ _) | (refine Below.setCell ?_ ?_ _) | (refine Below.drew ?_) | (refine below_drewN ?_ _) | assumption | (simp; done) | (simp; omega))))).mono ?_
          rintro e w2 ⟨rfl, b2⟩
          have B2 : Hid (Below w.heap.size w w2) := Lib.hid (Below.trans (by repeat' (first | exact Below.refl _ _ | exact Nat.le_refl _ | (refine Below.alloc ?_ ?_ _) | (refine Below.setCell ?_ ?_ _) | (refine Below.drew ?_) | (refine below_drewN ?_ _) | assumption | (simp; done) | (simp; omega))) (b2.mono (by simp)))
          have hh : w2.heap[w.heap.size]? = some (.cells #[.int .i64 0, .string ⟨#[]⟩, .int .i64 0] 62 (0, 0)) := (b2.block _ (by simp)).trans (heap_alloc_new _ _)
          have x0 : w2.cell? ⟨w.heap.size, 0, none⟩ = some (.int .i64 0) := by simp [World.cell?, hh]
          have x1 : w2.cell? ⟨w.heap.size, 1, none⟩ = some (.string ⟨#[]⟩) := by simp [World.cell?, hh]
          have x2 : w2.cell? ⟨w.heap.size, 2, none⟩ = some (.int .i64 0) := by simp [World.cell?, hh]
          have y0 : w2.frozen? ⟨w.heap.size, 0, none⟩ = false := by simp [World.frozen?, hh]
          have y1 : w2.frozen? ⟨w.heap.size, 1, none⟩ = false := by simp [World.frozen?, hh]
          have y2 : w2.frozen? ⟨w.heap.size, 2, none⟩ = false := by simp [World.frozen?, hh]
          generalize hrd : readD (s.extract i j) = rd at *
          obtain ⟨rn, rb⟩ := rd
          have HRD := Lib.hid hrd
          clear hrd b2 hh
          go_wp2_with (first | (go_at_call 58; refine (impl_isSmall _ _).mono ?_; rintro e w' ⟨rfl, rfl⟩) | (go_at_call 59; refine (impl_isFigure _ _).mono ?_; rintro e w' ⟨rfl, rfl⟩))
          refine bodyPost_ret (v := .tuple #[.agg #[.int .i64 2, .string (s.extract i j), .int .i64 (i : Int)], .bool rb]) (by simp [results, Tryd.results48, go_sem, x0, x1, x2]) rfl ?_
          rw [HE.out, HRD.out]
          exact ⟨rfl, ((B2.out.setCell (by simp) _).setCell (by simp) _).setCell (by simp) _⟩
        · have HE : Hid (runE s (j + 1) = runE s i) := Lib.hid (by rw [← HR.out, runE_yes (i := j) (by rw [HO.out, c1, c2]; rfl)])
          go_wp2_with (first | (go_at_call 58; refine (impl_isSmall _ _).mono ?_; rintro e w' ⟨rfl, rfl⟩) | (go_at_call 59; refine (impl_isFigure _ _).mono ?_; rintro e w' ⟨rfl, rfl⟩))
          go_roundw
          case rel => exact ⟨j + 1, by omega, by omega, by go_num, (by first | rfl | trivial), HE⟩
          case measure => simp [intOf]; omega
      · have HE : Hid (runE s (j + 1) = runE s i) := Lib.hid (by rw [← HR.out, runE_yes (i := j) (by rw [HO.out, c1]; rfl)])
        go_wp2_with (first | (go_at_call 58; refine (impl_isSmall _ _).mono ?_; rintro e w' ⟨rfl, rfl⟩) | (go_at_call 59; refine (impl_isFigure _ _).mono ?_; rintro e w' ⟨rfl, rfl⟩))
        go_roundw
        case rel => exact ⟨j + 1, by omega, by omega, by go_num, (by first | rfl | trivial), HE⟩
        case measure => simp [intOf]; omega
    · have h1j : ¬ (j : Int) < (s.size : Int) := by omega
      have HE : Hid (runE s i = j) := Lib.hid (by rw [← HR.out, runE_no (okAt_ge hlt)])
      have hle : i ≤ j := by omega
      go_wp2_with (first | (go_at_call 58; refine (impl_isSmall _ _).mono ?_; rintro e w' ⟨rfl, rfl⟩) | (go_at_call 59; refine (impl_isFigure _ _).mono ?_; rintro e w' ⟨rfl, rfl⟩))
      refine (impl_ReadDecimal (s.extract i j) _ (TB.out.below (by repeat' (first | exact Below.refl _ _ | exact Nat.le_refl _ | (refine Below.alloc ?_ ?_ _) | (refine Below.setCell ?_ ?_ _) | (refine Below.drew ?_) | (refine below_drewN ?_ _) | assumption | (simp; done) | (simp; omega))))).mono ?_
      rintro e w2 ⟨rfl, b2⟩
      have B2 : Hid (Below w.heap.size w w2) := Lib.hid (Below.trans (by repeat' (first | exact Below.refl _ _ | exact Nat.le_refl _ | (refine Below.alloc ?_ ?_ _) | (refine Below.setCell ?_ ?_ _) | (refine Below.drew ?_) | (refine below_drewN ?_ _) | assumption | (simp; done) | (simp; omega))) (b2.mono (by simp)))
      have hh : w2.heap[w.heap.size]? = some (.cells #[.int .i64 0, .string ⟨#[]⟩, .int .i64 0] 62 (0, 0)) := (b2.block _ (by simp)).trans (heap_alloc_new _ _)
      have x0 : w2.cell? ⟨w.heap.size, 0, none⟩ = some (.int .i64 0) := by simp [World.cell?, hh]
      have x1 : w2.cell? ⟨w.heap.size, 1, none⟩ = some (.string ⟨#[]⟩) := by simp [World.cell?, hh]
      have x2 : w2.cell? ⟨w.heap.size, 2, none⟩ = some (.int .i64 0) := by simp [World.cell?, hh]
      have y0 : w2.frozen? ⟨w.heap.size, 0, none⟩ = false := by simp [World.frozen?, hh]
      have y1 : w2.frozen? ⟨w.heap.size, 1, none⟩ = false := by simp [World.frozen?, hh]
      have y2 : w2.frozen? ⟨w.heap.size, 2, none⟩ = false := by simp [World.frozen?, hh]
      generalize hrd : readD (s.extract i j) = rd at *
      obtain ⟨rn, rb⟩ := rd
      have HRD := Lib.hid hrd
      clear hrd b2 hh
      go_wp2_with (first | (go_at_call 58; refine (impl_isSmall _ _).mono ?_; rintro e w' ⟨rfl, rfl⟩) | (go_at_call 59; refine (impl_isFigure _ _).mono ?_; rintro e w' ⟨rfl, rfl⟩))
      refine bodyPost_ret (v := .tuple #[.agg #[.int .i64 2, .string (s.extract i j), .int .i64 (i : Int)], .bool rb]) (by simp [results, Tryd.results48, go_sem, x0, x1, x2]) rfl ?_
      rw [HE.out, HRD.out]
      exact ⟨rfl, ((B2.out.setCell (by simp) _).setCell (by simp) _).setCell (by simp) _⟩
set_option maxHeartbeats 1600000 in
theorem impl_signAt_two (s : ByteArray) (i : Nat) (h : i < s.size) (hs : s.size ≤ 6000) (w : World) (hsm : smallB (s[i].toNat : Int) = false) (hfg : figB (s[i].toNat : Int) = false) (h1 : i + 1 < s.size) (e1 : (s[i].toNat : Int) = 61) (e2 : (s[i + 1].toNat : Int) = 61) :
    Calls Tryd.prog 48 #[.string s, .int .i64 (i : Int)] w fun e w' => e = .returned (.tuple #[.agg #[.int .i64 3, .string (s.extract i (i + 2)), .int .i64 (i : Int)], .bool (markB (s.extract i (i + 2)))]) ∧ Below w.heap.size w w' := by
  have h0i : (0 : Int) ≤ (i : Int) := by omega
  have h1i : (i : Int) < (s.size : Int) := by omega
  have h2i : (i : Int) + 1 < (s.size : Int) := by omega
  have q1 : ((s[i].toNat : Int) == 61) = true := beq_iff_eq.2 e1
  have q2 : ((s[i + 1].toNat : Int) == 61) = true := beq_iff_eq.2 e2
  have htn : ((i : Int) + 1 + 1).toNat = i + 2 := by omega
  clear e1 e2
  go_enter Tryd.func48, Tryd.ntmps48
  go_upto_region 12 with (first | (go_at_call 58; refine (impl_isSmall _ _).mono ?_; rintro e w' ⟨rfl, rfl⟩) | (go_at_call 59; refine (impl_isFigure _ _).mono ?_; rintro e w' ⟨rfl, rfl⟩))
  go_region_with (first | (go_at_call 61; refine (impl_IsMark _ _).mono ?_; rintro e w' ⟨rfl, rfl⟩))
  all_goals
    go_wp2_with fail
    refine bodyPost_ret (v := .tuple #[.agg #[.int .i64 3, .string (s.extract i (i + 2)), .int .i64 (i : Int)], .bool (markB (s.extract i (i + 2)))]) (by simp [results, Tryd.results48, go_sem, markB]) rfl ?_
    exact ⟨rfl, (by repeat' (first | exact Below.refl _ _ | exact Nat.le_refl _ | (refine Below.alloc ?_ ?_ _) | (refine Below.setCell ?_ ?_ _) | (refine Below.drew ?_) | (refine below_drewN ?_ _) | assumption | (simp; done) | (simp; omega)))⟩
set_option maxHeartbeats 1600000 in
theorem impl_signAt_one_a (s : ByteArray) (i : Nat) (h : i < s.size) (hs : s.size ≤ 6000) (w : World) (hsm : smallB (s[i].toNat : Int) = false) (hfg : figB (s[i].toNat : Int) = false) (h1 : (s[i].toNat : Int) ≠ 61) :
    Calls Tryd.prog 48 #[.string s, .int .i64 (i : Int)] w fun e w' => e = .returned (.tuple #[.agg #[.int .i64 3, .string (s.extract i (i + 1)), .int .i64 (i : Int)], .bool (markB (s.extract i (i + 1)))]) ∧ Below w.heap.size w w' := by
  have h0i : (0 : Int) ≤ (i : Int) := by omega
  have h1i : (i : Int) < (s.size : Int) := by omega
  have q1 : ((s[i].toNat : Int) == 61) = false := beq_eq_false_iff_ne.2 h1
  go_enter Tryd.func48, Tryd.ntmps48
  go_upto_region 12 with (first | (go_at_call 58; refine (impl_isSmall _ _).mono ?_; rintro e w' ⟨rfl, rfl⟩) | (go_at_call 59; refine (impl_isFigure _ _).mono ?_; rintro e w' ⟨rfl, rfl⟩))
  go_region_with (first | (go_at_call 61; refine (impl_IsMark _ _).mono ?_; rintro e w' ⟨rfl, rfl⟩))
  all_goals
    go_wp2_with fail
    refine bodyPost_ret (v := .tuple #[.agg #[.int .i64 3, .string (s.extract i (i + 1)), .int .i64 (i : Int)], .bool (markB (s.extract i (i + 1)))]) (by simp [results, Tryd.results48, go_sem, markB]) rfl ?_
    exact ⟨rfl, (by repeat' (first | exact Below.refl _ _ | exact Nat.le_refl _ | (refine Below.alloc ?_ ?_ _) | (refine Below.setCell ?_ ?_ _) | (refine Below.drew ?_) | (refine below_drewN ?_ _) | assumption | (simp; done) | (simp; omega)))⟩
set_option maxHeartbeats 1600000 in
theorem impl_signAt_one_b (s : ByteArray) (i : Nat) (h : i < s.size) (hs : s.size ≤ 6000) (w : World) (hsm : smallB (s[i].toNat : Int) = false) (hfg : figB (s[i].toNat : Int) = false) (e1 : (s[i].toNat : Int) = 61) (h1 : ¬ i + 1 < s.size) :
    Calls Tryd.prog 48 #[.string s, .int .i64 (i : Int)] w fun e w' => e = .returned (.tuple #[.agg #[.int .i64 3, .string (s.extract i (i + 1)), .int .i64 (i : Int)], .bool (markB (s.extract i (i + 1)))]) ∧ Below w.heap.size w w' := by
  have h0i : (0 : Int) ≤ (i : Int) := by omega
  have h1i : (i : Int) < (s.size : Int) := by omega
  have h2i : ¬ (i : Int) + 1 < (s.size : Int) := by omega
  have q1 : ((s[i].toNat : Int) == 61) = true := beq_iff_eq.2 e1
  clear e1
  go_enter Tryd.func48, Tryd.ntmps48
  go_upto_region 12 with (first | (go_at_call 58; refine (impl_isSmall _ _).mono ?_; rintro e w' ⟨rfl, rfl⟩) | (go_at_call 59; refine (impl_isFigure _ _).mono ?_; rintro e w' ⟨rfl, rfl⟩))
  go_region_with (first | (go_at_call 61; refine (impl_IsMark _ _).mono ?_; rintro e w' ⟨rfl, rfl⟩))
  all_goals
    go_wp2_with fail
    refine bodyPost_ret (v := .tuple #[.agg #[.int .i64 3, .string (s.extract i (i + 1)), .int .i64 (i : Int)], .bool (markB (s.extract i (i + 1)))]) (by simp [results, Tryd.results48, go_sem, markB]) rfl ?_
    exact ⟨rfl, (by repeat' (first | exact Below.refl _ _ | exact Nat.le_refl _ | (refine Below.alloc ?_ ?_ _) | (refine Below.setCell ?_ ?_ _) | (refine Below.drew ?_) | (refine below_drewN ?_ _) | assumption | (simp; done) | (simp; omega)))⟩
set_option maxHeartbeats 1600000 in
theorem impl_signAt_one_c (s : ByteArray) (i : Nat) (h : i < s.size) (hs : s.size ≤ 6000) (w : World) (hsm : smallB (s[i].toNat : Int) = false) (hfg : figB (s[i].toNat : Int) = false) (e1 : (s[i].toNat : Int) = 61) (h1 : i + 1 < s.size) (e2 : (s[i + 1].toNat : Int) ≠ 61) :
    Calls Tryd.prog 48 #[.string s, .int .i64 (i : Int)] w fun e w' => e = .returned (.tuple #[.agg #[.int .i64 3, .string (s.extract i (i + 1)), .int .i64 (i : Int)], .bool (markB (s.extract i (i + 1)))]) ∧ Below w.heap.size w w' := by
  have h0i : (0 : Int) ≤ (i : Int) := by omega
  have h1i : (i : Int) < (s.size : Int) := by omega
  have h2i : (i : Int) + 1 < (s.size : Int) := by omega
  have q1 : ((s[i].toNat : Int) == 61) = true := beq_iff_eq.2 e1
  have q2 : ((s[i + 1].toNat : Int) == 61) = false := beq_eq_false_iff_ne.2 e2
  clear e1
  go_enter Tryd.func48, Tryd.ntmps48
  go_upto_region 12 with (first | (go_at_call 58; refine (impl_isSmall _ _).mono ?_; rintro e w' ⟨rfl, rfl⟩) | (go_at_call 59; refine (impl_isFigure _ _).mono ?_; rintro e w' ⟨rfl, rfl⟩))
  go_region_with (first | (go_at_call 61; refine (impl_IsMark _ _).mono ?_; rintro e w' ⟨rfl, rfl⟩))
  all_goals
    go_wp2_with fail
    refine bodyPost_ret (v := .tuple #[.agg #[.int .i64 3, .string (s.extract i (i + 1)), .int .i64 (i : Int)], .bool (markB (s.extract i (i + 1)))]) (by simp [results, Tryd.results48, go_sem, markB]) rfl ?_
    exact ⟨rfl, (by repeat' (first | exact Below.refl _ _ | exact Nat.le_refl _ | (refine Below.alloc ?_ ?_ _) | (refine Below.setCell ?_ ?_ _) | (refine Below.drew ?_) | (refine below_drewN ?_ _) | assumption | (simp; done) | (simp; omega)))⟩
theorem impl_signAt (s : ByteArray) (i : Nat) (h : i < s.size) (hs : s.size ≤ 6000) (w : World) (tab : TabW w) :
    Calls Tryd.prog 48 #[.string s, .int .i64 (i : Int)] w fun e w' => e = .returned (.tuple #[.agg #[.int .i64 (signP s i h).1, .string (s.extract i (signP s i h).2.1), .int .i64 (i : Int)], .bool (signP s i h).2.2]) ∧ Below w.heap.size w w' := by
  cases c1 : smallB (s[i].toNat : Int) with
  | true =>
    have e : signP s i h = (1, runE s i, decide (runE s i - i ≤ 12)) := by unfold signP; rw [if_pos c1]
    rw [e]; exact impl_signAt_small s i h hs w c1
  | false =>
    cases c2 : figB (s[i].toNat : Int) with
    | true =>
      have e : signP s i h = (2, runE s i, (readD (s.extract i (runE s i))).2) := by unfold signP; rw [if_neg (by rw [c1]; decide), if_pos c2]
      rw [e]; exact impl_signAt_fig s i h hs w c1 c2 tab
    | false =>
      have e : signP s i h = (3, if eqTwo s i = true then i + 2 else i + 1, markB (s.extract i (if eqTwo s i = true then i + 2 else i + 1))) := by unfold signP; rw [if_neg (by rw [c1]; decide), if_neg (by rw [c2]; decide)]
      by_cases g1 : (s[i].toNat : Int) = 61
      · by_cases g2 : i + 1 < s.size
        · by_cases g3 : (s[i + 1].toNat : Int) = 61
          · have e2 : eqTwo s i = true := by unfold eqTwo; rw [dif_pos g2, decide_eq_true (by omega), decide_eq_true (by omega)]; rfl
            rw [e, if_pos e2]; exact impl_signAt_two s i h hs w c1 c2 g2 g1 g3
          · have e2 : eqTwo s i = false := by unfold eqTwo; rw [dif_pos g2, decide_eq_false (p := s[i + 1].toNat = 61) (by omega)]; simp
            rw [e, if_neg (by rw [e2]; decide)]; exact impl_signAt_one_c s i h hs w c1 c2 g1 g2 g3
        · have e2 : eqTwo s i = false := by unfold eqTwo; rw [dif_neg g2]
          rw [e, if_neg (by rw [e2]; decide)]; exact impl_signAt_one_b s i h hs w c1 c2 g1 g2
      · have e2 : eqTwo s i = false := by
          unfold eqTwo
          split
          · rw [decide_eq_false (p := s[i].toNat = 61) (by omega)]; rfl
          · rfl
        rw [e, if_neg (by rw [e2]; decide)]; exact impl_signAt_one_a s i h hs w c1 c2 g1
end Go.Proofs.YtdanlgmpgdipnaaDoor
