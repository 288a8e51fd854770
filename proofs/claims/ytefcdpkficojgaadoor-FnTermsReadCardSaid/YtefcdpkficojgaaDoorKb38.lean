/- Several texts in one: SignAt, LexImpl. -/
import Derived.Test.YtefcdpkficojgaaDoorKb34
import Derived.Test.YtefcdpkficojgaaDoorKb31
import Derived.Deep.RegionHeld3
import Derived.Deep.CutRange
import Derived.Test.YtefcdpkficojgaaDoorKb26
namespace Go.Proofs.YtefcdpkficojgaaDoor
open Go.RowKit
set_option linter.unusedVariables false


theorem okAt_split {s : ByteArray} {i : Nat} (h : i < s.size) : okAt s i = (smallB (s[i].toNat : Int) || figB (s[i].toNat : Int)) := by rw [okAt_lt h, okC_or]
--WALK--
set_option maxHeartbeats 1600000 in
theorem impl_signAt_small (s : ByteArray) (i : Nat) (h : i < s.size) (hs : s.size ≤ 6000) (w : World) (hsm : smallB (s[i].toNat : Int) = true) :
    Calls Tryd.prog 186 #[.string s, .int .i64 (i : Int)] w fun e w' => e = .returned (.tuple #[.agg #[.int .i64 1, .string (s.extract i (runE s i)), .int .i64 (i : Int)], .bool (decide (runE s i - i ≤ 12))]) ∧ Below w.heap.size w w' := by
  have h0i : (0 : Int) ≤ (i : Int) := by omega
  have h1i : (i : Int) < (s.size : Int) := by omega
  have RS : Hid (runE s (i + 1) = runE s i) := Lib.hid (runE_yes (by rw [okAt_split h, hsm]; rfl)).symm
  go_enter Tryd.func186, Tryd.ntmps186
  go_upto_region 3 with (first | (go_at_call 79; refine (impl_isSmall _ _).mono ?_; rintro e w' ⟨rfl, rfl⟩) | (go_at_call 80; refine (impl_isFigure _ _).mono ?_; rintro e w' ⟨rfl, rfl⟩))
  go_loopw [6] (fun iv wr => ∃ j : Nat, i < j ∧ j ≤ s.size ∧ iv = .int .i64 (j : Int) ∧ wr = w.alloc (.cells #[.int .i64 0, .string ⟨#[]⟩, .int .i64 0] 166) ∧ Hid (runE s j = runE s i)) (fun iv _ => s.size - (intOf iv).toNat)
  case atStart => exact ⟨i + 1, by omega, by omega, by go_num, rfl, RS⟩
  case round =>
    obtain ⟨j, hij, hj, rfl, rfl, HR⟩ := hrel
    by_cases hlt : j < s.size
    · have h0j : (0 : Int) ≤ (j : Int) := by omega
      have h1j : (j : Int) < (s.size : Int) := by omega
      have HO := Lib.hid (okAt_split hlt)
      cases c1 : smallB (s[j].toNat : Int)
      · cases c2 : figB (s[j].toNat : Int)
        · have HE : Hid (runE s i = j) := Lib.hid (by rw [← HR.out, runE_no (by rw [HO.out, c1, c2]; rfl)])
          have hle : i ≤ j := by omega
          have hsz : (s.extract i j).size = j - i := by simp; omega
          clear hsz
          go_wp2_with (first | (go_at_call 79; refine (impl_isSmall _ _).mono ?_; rintro e w' ⟨rfl, rfl⟩) | (go_at_call 80; refine (impl_isFigure _ _).mono ?_; rintro e w' ⟨rfl, rfl⟩))
          refine bodyPost_ret (v := .tuple #[.agg #[.int .i64 1, .string (s.extract i j), .int .i64 (i : Int)], .bool (decide (((j - i : Nat) : Int) ≤ 12))]) (by simp [results, Tryd.results186, go_sem]) rfl ?_
          rw [HE.out, show decide (((j - i : Nat) : Int) ≤ 12) = decide (j - i ≤ 12) from decide_eq_decide.2 (by omega)]
          exact ⟨rfl, (by repeat' (first | exact Below.refl _ _ | exact Nat.le_refl _ | (refine Below.alloc ?_ ?_ _) | (refine Below.setCell ?_ ?_ _) | (refine Below.drew ?_) | (refine below_drewN ?_ _) | assumption | (simp; done) | (simp; omega)))⟩
        · have HE : Hid (runE s (j + 1) = runE s i) := Lib.hid (by rw [← HR.out, runE_yes (i := j) (by rw [HO.out, c1, c2]; rfl)])
          go_wp2_with (first | (go_at_call 79; refine (impl_isSmall _ _).mono ?_; rintro e w' ⟨rfl, rfl⟩) | (go_at_call 80; refine (impl_isFigure _ _).mono ?_; rintro e w' ⟨rfl, rfl⟩))
          go_roundw
          case rel => exact ⟨j + 1, by omega, by omega, by go_num, (by first | rfl | trivial), HE⟩
          case measure => simp [intOf]; omega
      · have HE : Hid (runE s (j + 1) = runE s i) := Lib.hid (by rw [← HR.out, runE_yes (i := j) (by rw [HO.out, c1]; rfl)])
        go_wp2_with (first | (go_at_call 79; refine (impl_isSmall _ _).mono ?_; rintro e w' ⟨rfl, rfl⟩) | (go_at_call 80; refine (impl_isFigure _ _).mono ?_; rintro e w' ⟨rfl, rfl⟩))
        go_roundw
        case rel => exact ⟨j + 1, by omega, by omega, by go_num, (by first | rfl | trivial), HE⟩
        case measure => simp [intOf]; omega
    · have h1j : ¬ (j : Int) < (s.size : Int) := by omega
      have HE : Hid (runE s i = j) := Lib.hid (by rw [← HR.out, runE_no (okAt_ge hlt)])
      have hle : i ≤ j := by omega
      have hsz : (s.extract i j).size = j - i := by simp; omega
      clear hsz
      go_wp2_with (first | (go_at_call 79; refine (impl_isSmall _ _).mono ?_; rintro e w' ⟨rfl, rfl⟩) | (go_at_call 80; refine (impl_isFigure _ _).mono ?_; rintro e w' ⟨rfl, rfl⟩))
      refine bodyPost_ret (v := .tuple #[.agg #[.int .i64 1, .string (s.extract i j), .int .i64 (i : Int)], .bool (decide (((j - i : Nat) : Int) ≤ 12))]) (by simp [results, Tryd.results186, go_sem]) rfl ?_
      rw [HE.out, show decide (((j - i : Nat) : Int) ≤ 12) = decide (j - i ≤ 12) from decide_eq_decide.2 (by omega)]
      exact ⟨rfl, (by repeat' (first | exact Below.refl _ _ | exact Nat.le_refl _ | (refine Below.alloc ?_ ?_ _) | (refine Below.setCell ?_ ?_ _) | (refine Below.drew ?_) | (refine below_drewN ?_ _) | assumption | (simp; done) | (simp; omega)))⟩
set_option maxHeartbeats 1600000 in
theorem impl_signAt_fig (s : ByteArray) (i : Nat) (h : i < s.size) (hs : s.size ≤ 6000) (w : World) (hsm : smallB (s[i].toNat : Int) = false) (hfg : figB (s[i].toNat : Int) = true) (tab : TabW w) :
    Calls Tryd.prog 186 #[.string s, .int .i64 (i : Int)] w fun e w' => e = .returned (.tuple #[.agg #[.int .i64 2, .string (s.extract i (runE s i)), .int .i64 (i : Int)], .bool (readD (s.extract i (runE s i))).2]) ∧ Below w.heap.size w w' := by
  have h0i : (0 : Int) ≤ (i : Int) := by omega
  have h1i : (i : Int) < (s.size : Int) := by omega
  have RS : Hid (runE s (i + 1) = runE s i) := Lib.hid (runE_yes (by rw [okAt_split h, hsm, hfg]; rfl)).symm
  have TB := Lib.hid tab
  clear tab
  go_enter Tryd.func186, Tryd.ntmps186
  go_upto_region 3 with (first | (go_at_call 79; refine (impl_isSmall _ _).mono ?_; rintro e w' ⟨rfl, rfl⟩) | (go_at_call 80; refine (impl_isFigure _ _).mono ?_; rintro e w' ⟨rfl, rfl⟩))
  go_loopw [6] (fun iv wr => ∃ j : Nat, i < j ∧ j ≤ s.size ∧ iv = .int .i64 (j : Int) ∧ wr = w.alloc (.cells #[.int .i64 0, .string ⟨#[]⟩, .int .i64 0] 166) ∧ Hid (runE s j = runE s i)) (fun iv _ => s.size - (intOf iv).toNat)
  case atStart => exact ⟨i + 1, by omega, by omega, by go_num, rfl, RS⟩
  case round =>
    obtain ⟨j, hij, hj, rfl, rfl, HR⟩ := hrel
    by_cases hlt : j < s.size
    · have h0j : (0 : Int) ≤ (j : Int) := by omega
      have h1j : (j : Int) < (s.size : Int) := by omega
      have HO := Lib.hid (okAt_split hlt)
      cases c1 : smallB (s[j].toNat : Int)
      · cases c2 : figB (s[j].toNat : Int)
        · have HE : Hid (runE s i = j) := Lib.hid (by rw [← HR.out, runE_no (by rw [HO.out, c1, c2]; rfl)])
          have hle : i ≤ j := by omega
          go_wp2_with (first | (go_at_call 79; refine (impl_isSmall _ _).mono ?_; rintro e w' ⟨rfl, rfl⟩) | (go_at_call 80; refine (impl_isFigure _ _).mono ?_; rintro e w' ⟨rfl, rfl⟩))
          refine (impl_ReadDecimal (s.extract i j) _ (TB.out.below (by repeat' (first | exact Below.refl _ _ | exact Nat.le_refl _ | (refine Below.alloc ?_ ?_ _) | (refine Below.setCell ?_ ?_ _) | (refine Below.drew ?_) | (refine below_drewN ?_ _) | assumption | (simp; done) | (simp; omega))))).mono ?_
          rintro e w2 ⟨rfl, b2⟩
          have B2 : Hid (Below w.heap.size w w2) := Lib.hid (Below.trans (by repeat' (first | exact Below.refl _ _ | exact Nat.le_refl _ | (refine Below.alloc ?_ ?_ _) | (refine Below.setCell ?_ ?_ _) | (refine Below.drew ?_) | (refine below_drewN ?_ _) | assumption | (simp; done) | (simp; omega))) (b2.mono (by simp)))
          have hh : w2.heap[w.heap.size]? = some (.cells #[.int .i64 0, .string ⟨#[]⟩, .int .i64 0] 166 (0, 0)) := (b2.block _ (by simp)).trans (heap_alloc_new _ _)
          have x0 : w2.cell? ⟨w.heap.size, 0, none⟩ = some (.int .i64 0) := by simp [World.cell?, hh]
          have x1 : w2.cell? ⟨w.heap.size, 1, none⟩ = some (.string ⟨#[]⟩) := by simp [World.cell?, hh]
          have x2 : w2.cell? ⟨w.heap.size, 2, none⟩ = some (.int .i64 0) := by simp [World.cell?, hh]
          have y0 : w2.frozen? ⟨w.heap.size, 0, none⟩ = false := by simp [World.frozen?, hh]
          have y1 : w2.frozen? ⟨w.heap.size, 1, none⟩ = false := by simp [World.frozen?, hh]
          have y2 : w2.frozen? ⟨w.heap.size, 2, none⟩ = false := by simp [World.frozen?, hh]
          generalize hrd : readD (s.extract i j) = rd at *
          obtain ⟨rn, rb⟩ := rd
          have HRD := Lib.hid hrd
          clear hrd b2 hh
          go_wp2_with (first | (go_at_call 79; refine (impl_isSmall _ _).mono ?_; rintro e w' ⟨rfl, rfl⟩) | (go_at_call 80; refine (impl_isFigure _ _).mono ?_; rintro e w' ⟨rfl, rfl⟩))
          refine bodyPost_ret (v := .tuple #[.agg #[.int .i64 2, .string (s.extract i j), .int .i64 (i : Int)], .bool rb]) (by simp [results, Tryd.results186, go_sem, x0, x1, x2]) rfl ?_
          rw [HE.out, HRD.out]
          exact ⟨rfl, ((B2.out.setCell (by simp) _).setCell (by simp) _).setCell (by simp) _⟩
        · have HE : Hid (runE s (j + 1) = runE s i) := Lib.hid (by rw [← HR.out, runE_yes (i := j) (by rw [HO.out, c1, c2]; rfl)])
          go_wp2_with (first | (go_at_call 79; refine (impl_isSmall _ _).mono ?_; rintro e w' ⟨rfl, rfl⟩) | (go_at_call 80; refine (impl_isFigure _ _).mono ?_; rintro e w' ⟨rfl, rfl⟩))
          go_roundw
          case rel => exact ⟨j + 1, by omega, by omega, by go_num, (by first | rfl | trivial), HE⟩
          case measure => simp [intOf]; omega
      · have HE : Hid (runE s (j + 1) = runE s i) := Lib.hid (by rw [← HR.out, runE_yes (i := j) (by rw [HO.out, c1]; rfl)])
        go_wp2_with (first | (go_at_call 79; refine (impl_isSmall _ _).mono ?_; rintro e w' ⟨rfl, rfl⟩) | (go_at_call 80; refine (impl_isFigure _ _).mono ?_; rintro e w' ⟨rfl, rfl⟩))
        go_roundw
        case rel => exact ⟨j + 1, by omega, by omega, by go_num, (by first | rfl | trivial), HE⟩
        case measure => simp [intOf]; omega
    · have h1j : ¬ (j : Int) < (s.size : Int) := by omega
      have HE : Hid (runE s i = j) := Lib.hid (by rw [← HR.out, runE_no (okAt_ge hlt)])
      have hle : i ≤ j := by omega
      go_wp2_with (first | (go_at_call 79; refine (impl_isSmall _ _).mono ?_; rintro e w' ⟨rfl, rfl⟩) | (go_at_call 80; refine (impl_isFigure _ _).mono ?_; rintro e w' ⟨rfl, rfl⟩))
      refine (impl_ReadDecimal (s.extract i j) _ (TB.out.below (by repeat' (first | exact Below.refl _ _ | exact Nat.le_refl _ | (refine Below.alloc ?_ ?_ _) | (refine Below.setCell ?_ ?_ _) | (refine Below.drew ?_) | (refine below_drewN ?_ _) | assumption | (simp; done) | (simp; omega))))).mono ?_
      rintro e w2 ⟨rfl, b2⟩
      have B2 : Hid (Below w.heap.size w w2) := Lib.hid (Below.trans (by repeat' (first | exact Below.refl _ _ | exact Nat.le_refl _ | (refine Below.alloc ?_ ?_ _) | (refine Below.setCell ?_ ?_ _) | (refine Below.drew ?_) | (refine below_drewN ?_ _) | assumption | (simp; done) | (simp; omega))) (b2.mono (by simp)))
      have hh : w2.heap[w.heap.size]? = some (.cells #[.int .i64 0, .string ⟨#[]⟩, .int .i64 0] 166 (0, 0)) := (b2.block _ (by simp)).trans (heap_alloc_new _ _)
      have x0 : w2.cell? ⟨w.heap.size, 0, none⟩ = some (.int .i64 0) := by simp [World.cell?, hh]
      have x1 : w2.cell? ⟨w.heap.size, 1, none⟩ = some (.string ⟨#[]⟩) := by simp [World.cell?, hh]
      have x2 : w2.cell? ⟨w.heap.size, 2, none⟩ = some (.int .i64 0) := by simp [World.cell?, hh]
      have y0 : w2.frozen? ⟨w.heap.size, 0, none⟩ = false := by simp [World.frozen?, hh]
      have y1 : w2.frozen? ⟨w.heap.size, 1, none⟩ = false := by simp [World.frozen?, hh]
      have y2 : w2.frozen? ⟨w.heap.size, 2, none⟩ = false := by simp [World.frozen?, hh]
      generalize hrd : readD (s.extract i j) = rd at *
      obtain ⟨rn, rb⟩ := rd
      have HRD := Lib.hid hrd
      clear hrd b2 hh
      go_wp2_with (first | (go_at_call 79; refine (impl_isSmall _ _).mono ?_; rintro e w' ⟨rfl, rfl⟩) | (go_at_call 80; refine (impl_isFigure _ _).mono ?_; rintro e w' ⟨rfl, rfl⟩))
      refine bodyPost_ret (v := .tuple #[.agg #[.int .i64 2, .string (s.extract i j), .int .i64 (i : Int)], .bool rb]) (by simp [results, Tryd.results186, go_sem, x0, x1, x2]) rfl ?_
      rw [HE.out, HRD.out]
      exact ⟨rfl, ((B2.out.setCell (by simp) _).setCell (by simp) _).setCell (by simp) _⟩
set_option maxHeartbeats 1600000 in
theorem impl_signAt_two (s : ByteArray) (i : Nat) (h : i < s.size) (hs : s.size ≤ 6000) (w : World) (hsm : smallB (s[i].toNat : Int) = false) (hfg : figB (s[i].toNat : Int) = false) (h1 : i + 1 < s.size) (e1 : (s[i].toNat : Int) = 61) (e2 : (s[i + 1].toNat : Int) = 61) :
    Calls Tryd.prog 186 #[.string s, .int .i64 (i : Int)] w fun e w' => e = .returned (.tuple #[.agg #[.int .i64 3, .string (s.extract i (i + 2)), .int .i64 (i : Int)], .bool (markB (s.extract i (i + 2)))]) ∧ Below w.heap.size w w' := by
  have h0i : (0 : Int) ≤ (i : Int) := by omega
  have h1i : (i : Int) < (s.size : Int) := by omega
  have h2i : (i : Int) + 1 < (s.size : Int) := by omega
  have q1 : ((s[i].toNat : Int) == 61) = true := beq_iff_eq.2 e1
  have q2 : ((s[i + 1].toNat : Int) == 61) = true := beq_iff_eq.2 e2
  have htn : ((i : Int) + 1 + 1).toNat = i + 2 := by omega
  clear e1 e2
  go_enter Tryd.func186, Tryd.ntmps186
  go_upto_region 12 with (first | (go_at_call 79; refine (impl_isSmall _ _).mono ?_; rintro e w' ⟨rfl, rfl⟩) | (go_at_call 80; refine (impl_isFigure _ _).mono ?_; rintro e w' ⟨rfl, rfl⟩))
  go_region_with (first | (go_at_call 216; refine (impl_IsMark _ _).mono ?_; rintro e w' ⟨rfl, rfl⟩))
  all_goals
    go_wp2_with fail
    refine bodyPost_ret (v := .tuple #[.agg #[.int .i64 3, .string (s.extract i (i + 2)), .int .i64 (i : Int)], .bool (markB (s.extract i (i + 2)))]) (by simp [results, Tryd.results186, go_sem, markB]) rfl ?_
    exact ⟨rfl, (by repeat' (first | exact Below.refl _ _ | exact Nat.le_refl _ | (refine Below.alloc ?_ ?_ _) | (refine Below.setCell ?_ ?_ _) | (refine Below.drew ?_) | (refine below_drewN ?_ _) | assumption | (simp; done) | (simp; omega)))⟩
set_option maxHeartbeats 1600000 in
theorem impl_signAt_one_a (s : ByteArray) (i : Nat) (h : i < s.size) (hs : s.size ≤ 6000) (w : World) (hsm : smallB (s[i].toNat : Int) = false) (hfg : figB (s[i].toNat : Int) = false) (h1 : (s[i].toNat : Int) ≠ 61) :
    Calls Tryd.prog 186 #[.string s, .int .i64 (i : Int)] w fun e w' => e = .returned (.tuple #[.agg #[.int .i64 3, .string (s.extract i (i + 1)), .int .i64 (i : Int)], .bool (markB (s.extract i (i + 1)))]) ∧ Below w.heap.size w w' := by
  have h0i : (0 : Int) ≤ (i : Int) := by omega
  have h1i : (i : Int) < (s.size : Int) := by omega
  have q1 : ((s[i].toNat : Int) == 61) = false := beq_eq_false_iff_ne.2 h1
  go_enter Tryd.func186, Tryd.ntmps186
  go_upto_region 12 with (first | (go_at_call 79; refine (impl_isSmall _ _).mono ?_; rintro e w' ⟨rfl, rfl⟩) | (go_at_call 80; refine (impl_isFigure _ _).mono ?_; rintro e w' ⟨rfl, rfl⟩))
  go_region_with (first | (go_at_call 216; refine (impl_IsMark _ _).mono ?_; rintro e w' ⟨rfl, rfl⟩))
  all_goals
    go_wp2_with fail
    refine bodyPost_ret (v := .tuple #[.agg #[.int .i64 3, .string (s.extract i (i + 1)), .int .i64 (i : Int)], .bool (markB (s.extract i (i + 1)))]) (by simp [results, Tryd.results186, go_sem, markB]) rfl ?_
    exact ⟨rfl, (by repeat' (first | exact Below.refl _ _ | exact Nat.le_refl _ | (refine Below.alloc ?_ ?_ _) | (refine Below.setCell ?_ ?_ _) | (refine Below.drew ?_) | (refine below_drewN ?_ _) | assumption | (simp; done) | (simp; omega)))⟩
set_option maxHeartbeats 1600000 in
theorem impl_signAt_one_b (s : ByteArray) (i : Nat) (h : i < s.size) (hs : s.size ≤ 6000) (w : World) (hsm : smallB (s[i].toNat : Int) = false) (hfg : figB (s[i].toNat : Int) = false) (e1 : (s[i].toNat : Int) = 61) (h1 : ¬ i + 1 < s.size) :
    Calls Tryd.prog 186 #[.string s, .int .i64 (i : Int)] w fun e w' => e = .returned (.tuple #[.agg #[.int .i64 3, .string (s.extract i (i + 1)), .int .i64 (i : Int)], .bool (markB (s.extract i (i + 1)))]) ∧ Below w.heap.size w w' := by
  have h0i : (0 : Int) ≤ (i : Int) := by omega
  have h1i : (i : Int) < (s.size : Int) := by omega
  have h2i : ¬ (i : Int) + 1 < (s.size : Int) := by omega
  have q1 : ((s[i].toNat : Int) == 61) = true := beq_iff_eq.2 e1
  clear e1
  go_enter Tryd.func186, Tryd.ntmps186
  go_upto_region 12 with (first | (go_at_call 79; refine (impl_isSmall _ _).mono ?_; rintro e w' ⟨rfl, rfl⟩) | (go_at_call 80; refine (impl_isFigure _ _).mono ?_; rintro e w' ⟨rfl, rfl⟩))
  go_region_with (first | (go_at_call 216; refine (impl_IsMark _ _).mono ?_; rintro e w' ⟨rfl, rfl⟩))
  all_goals
    go_wp2_with fail
    refine bodyPost_ret (v := .tuple #[.agg #[.int .i64 3, .string (s.extract i (i + 1)), .int .i64 (i : Int)], .bool (markB (s.extract i (i + 1)))]) (by simp [results, Tryd.results186, go_sem, markB]) rfl ?_
    exact ⟨rfl, (by repeat' (first | exact Below.refl _ _ | exact Nat.le_refl _ | (refine Below.alloc ?_ ?_ _) | (refine Below.setCell ?_ ?_ _) | (refine Below.drew ?_) | (refine below_drewN ?_ _) | assumption | (simp; done) | (simp; omega)))⟩
set_option maxHeartbeats 1600000 in
theorem impl_signAt_one_c (s : ByteArray) (i : Nat) (h : i < s.size) (hs : s.size ≤ 6000) (w : World) (hsm : smallB (s[i].toNat : Int) = false) (hfg : figB (s[i].toNat : Int) = false) (e1 : (s[i].toNat : Int) = 61) (h1 : i + 1 < s.size) (e2 : (s[i + 1].toNat : Int) ≠ 61) :
    Calls Tryd.prog 186 #[.string s, .int .i64 (i : Int)] w fun e w' => e = .returned (.tuple #[.agg #[.int .i64 3, .string (s.extract i (i + 1)), .int .i64 (i : Int)], .bool (markB (s.extract i (i + 1)))]) ∧ Below w.heap.size w w' := by
  have h0i : (0 : Int) ≤ (i : Int) := by omega
  have h1i : (i : Int) < (s.size : Int) := by omega
  have h2i : (i : Int) + 1 < (s.size : Int) := by omega
  have q1 : ((s[i].toNat : Int) == 61) = true := beq_iff_eq.2 e1
  have q2 : ((s[i + 1].toNat : Int) == 61) = false := beq_eq_false_iff_ne.2 e2
  clear e1
  go_enter Tryd.func186, Tryd.ntmps186
  go_upto_region 12 with (first | (go_at_call 79; refine (impl_isSmall _ _).mono ?_; rintro e w' ⟨rfl, rfl⟩) | (go_at_call 80; refine (impl_isFigure _ _).mono ?_; rintro e w' ⟨rfl, rfl⟩))
  go_region_with (first | (go_at_call 216; refine (impl_IsMark _ _).mono ?_; rintro e w' ⟨rfl, rfl⟩))
  all_goals
    go_wp2_with fail
    refine bodyPost_ret (v := .tuple #[.agg #[.int .i64 3, .string (s.extract i (i + 1)), .int .i64 (i : Int)], .bool (markB (s.extract i (i + 1)))]) (by simp [results, Tryd.results186, go_sem, markB]) rfl ?_
    exact ⟨rfl, (by repeat' (first | exact Below.refl _ _ | exact Nat.le_refl _ | (refine Below.alloc ?_ ?_ _) | (refine Below.setCell ?_ ?_ _) | (refine Below.drew ?_) | (refine below_drewN ?_ _) | assumption | (simp; done) | (simp; omega)))⟩
theorem impl_signAt (s : ByteArray) (i : Nat) (h : i < s.size) (hs : s.size ≤ 6000) (w : World) (tab : TabW w) :
    Calls Tryd.prog 186 #[.string s, .int .i64 (i : Int)] w fun e w' => e = .returned (.tuple #[.agg #[.int .i64 (signP s i h).1, .string (s.extract i (signP s i h).2.1), .int .i64 (i : Int)], .bool (signP s i h).2.2]) ∧ Below w.heap.size w w' := by
  cases c1 : smallB (s[i].toNat : Int) with
  | true =>
    have e : signP s i h = (1, runE s i, decide (runE s i - i ≤ 12)) := by unfold signP; rw [if_pos c1]
    rw [e]; exact impl_signAt_small s i h hs w c1
  | false =>
    cases c2 : figB (s[i].toNat : Int) with
    | true =>
      have e : signP s i h = (2, runE s i, (readD (s.extract i (runE s i))).2) := by unfold signP; rw [if_neg (by rw [c1]; decide), if_pos c2]
      rw [e]; exact impl_signAt_fig s i h hs w c1 c2 tab
    | false =>
      have e : signP s i h = (3, if eqTwo s i = true then i + 2 else i + 1, markB (s.extract i (if eqTwo s i = true then i + 2 else i + 1))) := by unfold signP; rw [if_neg (by rw [c1]; decide), if_neg (by rw [c2]; decide)]
      by_cases g1 : (s[i].toNat : Int) = 61
      · by_cases g2 : i + 1 < s.size
        · by_cases g3 : (s[i + 1].toNat : Int) = 61
          · have e2 : eqTwo s i = true := by unfold eqTwo; rw [dif_pos g2, decide_eq_true (by omega), decide_eq_true (by omega)]; rfl
            rw [e, if_pos e2]; exact impl_signAt_two s i h hs w c1 c2 g2 g1 g3
          · have e2 : eqTwo s i = false := by unfold eqTwo; rw [dif_pos g2, decide_eq_false (p := s[i + 1].toNat = 61) (by omega)]; simp
            rw [e, if_neg (by rw [e2]; decide)]; exact impl_signAt_one_c s i h hs w c1 c2 g1 g2 g3
        · have e2 : eqTwo s i = false := by unfold eqTwo; rw [dif_neg g2]
          rw [e, if_neg (by rw [e2]; decide)]; exact impl_signAt_one_b s i h hs w c1 c2 g1 g2
      · have e2 : eqTwo s i = false := by
          unfold eqTwo
          split
          · rw [decide_eq_false (p := s[i].toNat = 61) (by omega)]; rfl
          · rfl
        rw [e, if_neg (by rw [e2]; decide)]; exact impl_signAt_one_a s i h hs w c1 c2 g1

def sgF (x : Sg) : List Value := [.int .i64 x.k, .string x.t, .int .i64 (x.p : Int)]
theorem sgF_len (x : Sg) : (sgF x).length = 3 := rfl
theorem sgF_snoc (l : List Sg) (x : Sg) : (l ++ [x]).flatMap sgF = l.flatMap sgF ++ sgF x := by simp
theorem sgRT : ElemT Tryd.prog 83 166 3 32 := ElemT.mk' (z := .agg #[.int .i64 0, .string ByteArray.empty, .int .i64 0]) Tryd.underlying83 (by kernel_rfl) rfl (by decide)
/-- signs in a row of the call's own -/
def OutS (w0 w : World) (v : Value) (l : List Sg) : Prop := Own w0 w 166 3 v l.length (l.flatMap sgF)
theorem OutS.nil {w0 w : World} (h : Below w0.heap.size w0 w) : OutS w0 w (.slice none 0 0) [] := Own.startB h _ _
theorem OutS.empty {w0 w : World} (h : Below w0.heap.size w0 w) : OutS w0 (w.alloc (.cells #[] 166)) (.slice (some ⟨w.heap.size, 0, none⟩) 0 0) [] := Own.lit h _ 3 0 #[] (by simp [maxLen]) rfl
theorem OutS.below {w0 w w' : World} {v : Value} {l : List Sg} (h : OutS w0 w v l) (hb : Below w.heap.size w w') : OutS w0 w' v l := Own.below h hb
theorem OutS.own {w0 w : World} {v : Value} {l : List Sg} (h : OutS w0 w v l) : Below w0.heap.size w0 w := h.2
theorem OutS.slice {w0 w : World} {v : Value} {l : List Sg} (h : OutS w0 w v l) : ∃ A c, v = .slice A l.length c := by
  obtain ⟨A, c, e, _⟩ := Own.slice h
  exact ⟨A, c, e⟩
/-- the fault's variable, yet zero -/
def FltZ (w : World) (g : Nat) : Prop := w.heap[g]? = some (.cells #[.int .i64 0, .int .i64 0] 26 (0, 0))
theorem FltZ.keep {w w' : World} {g : Nat} {S : Nat → Prop} (h : FltZ w g) (hk : Keep S w w') (hS : S g) : FltZ w' g := (hk.block g (lt_of_block h) hS).trans h
theorem FltZ.below {w w' : World} {g : Nat} (h : FltZ w g) (hb : Below w.heap.size w w') : FltZ w' g := (hb.block g (lt_of_block h)).trans h
theorem FltZ.cells {w : World} {g : Nat} (h : FltZ w g) : w.cell? ⟨g, 0, none⟩ = some (.int .i64 0) ∧ w.cell? ⟨g, 1, none⟩ = some (.int .i64 0) ∧ w.frozen? ⟨g, 0, none⟩ = false ∧ w.frozen? ⟨g, 1, none⟩ = false := by
  unfold FltZ at h
  refine ⟨?_, ?_, ?_, ?_⟩ <;> simp [World.cell?, World.frozen?, h]
theorem FltZ.grew {w0 w w' : World} {v v' : Value} {l : List Sg} {g : Nat} (h : FltZ w g) (o : OutS w0 w v l) (k : Grew v v' w w') : FltZ w' g := h.keep k.keep (Own.neT o (sane_of h (by decide)))
theorem setC2 {w0 w : World} {v : Value} {l : List Sg} {g : Nat} (o : OutS w0 w v l) (f : FltZ w g) (a b : Value) (hg : w0.heap.size ≤ g) : OutS w0 ((w.setCell ⟨g, 0, none⟩ a).setCell ⟨g, 1, none⟩ b) v l := by
  have hv : v.ownBlock ≠ some g := Own.neT o (sane_of f (by decide))
  refine ⟨ownsRow_setCell_other (ownsRow_setCell_other o.1 (a := ⟨g, 0, none⟩) hv a) (a := ⟨g, 1, none⟩) hv b, (o.2.setCell hg _).setCell hg _⟩
theorem grew_new {w0 w w' : World} {v v' : Value} {l : List Sg} {cs : Array Value} {e : TypeId} (o : OutS w0 w v l) (k : Grew v v' (w.alloc (.cells cs e)) w') : w'.heap[w.heap.size]? = some (.cells cs e (0, 0)) := by
  refine (k.keep.block _ (by simp) (fun e1 => ?_)).trans (heap_alloc_new _ _)
  have := (o.1.lt _ e1).2
  omega
theorem blank_of {c : UInt8} : blankB c = ((c.toNat : Int) == 32 || (c.toNat : Int) == 9 || (c.toNat : Int) == 10 || (c.toNat : Int) == 13) := by
  have key : ∀ n : Nat, decide (c.toNat = n) = ((c.toNat : Int) == (n : Int)) := fun n => by
    rw [Bool.eq_iff_iff, decide_eq_true_eq, beq_iff_eq]; omega
  unfold blankB
  rw [key 32, key 9, key 10, key 13]; rfl
/-- what Lex comes back as -/
def RetL (w : World) (r : List Sg × Int × Int) (e : Ending) (w' : World) : Prop := ∃ v', e = .returned (.tuple #[v', .agg #[.int .i64 r.2.1, .int .i64 r.2.2]]) ∧ OutS w w' v' r.1
set_option maxHeartbeats 3200000 in
set_option maxRecDepth 100000 in
theorem impl_Lex (s : ByteArray) (w : World) (tab : TabW w) : Calls Tryd.prog 130 #[.string s] w (RetL w (lexR s)) := by
  have TB := Lib.hid tab
  clear tab
  by_cases hs : 6000 < s.size
  · have HR := Lib.hid (lexR_long hs)
    have hs' : (6000 : Int) < (s.size : Int) := by omega
    go_enter Tryd.func130, Tryd.ntmps130
    go_wp2_with fail
    refine bodyPost_ret (v := .tuple #[.slice none 0 0, .agg #[.int .i64 1, .int .i64 0]]) (by simp [results, Tryd.results130, go_sem]) rfl ?_
    unfold RetL
    rw [HR.out]
    exact ⟨_, rfl, OutS.nil (by repeat' (first | exact Below.refl _ _ | exact Nat.le_refl _ | (refine Below.alloc ?_ ?_ _) | (refine Below.setCell ?_ ?_ _) | (refine Below.drew ?_) | (refine below_drewN ?_ _) | assumption | (simp; done) | (simp; omega)))⟩
  have hs' : ¬ (6000 : Int) < (s.size : Int) := by omega
  have HR0 := Lib.hid (lexR_short hs)
  go_enter Tryd.func130, Tryd.ntmps130
  go_wp2_with fail
  go_loopw [4, 5] (fun ov iv wr => ∃ j : Nat, j ≤ s.size ∧ iv = .int .i64 (j : Int) ∧ ∃ A' n c', ov = .slice A' n c' ∧ Hid (∃ acc : List Sg, acc.length = n ∧ n ≤ j ∧ OutS w wr (.slice A' n c') acc ∧ lexS s j acc = lexR s ∧ FltZ wr w.heap.size)) (fun _ iv _ => s.size - (intOf iv).toNat)
  case atStart => exact ⟨0, by omega, rfl, none, 0, 0, rfl, Lib.hid ⟨[], rfl, Nat.le_refl _, OutS.nil (by repeat' (first | exact Below.refl _ _ | exact Nat.le_refl _ | (refine Below.alloc ?_ ?_ _) | (refine Below.setCell ?_ ?_ _) | (refine Below.drew ?_) | (refine below_drewN ?_ _) | assumption | (simp; done) | (simp; omega))), HR0.out.symm, heap_alloc_new _ _⟩⟩
  case round =>
    obtain ⟨j, hj, rfl, A', n, c', rfl, HR⟩ := hrel
    obtain ⟨acc, hn, hnj, own, hlx, flt⟩ := HR.out
    have OW := Lib.hid own
    have HLX := Lib.hid hlx
    have FL := Lib.hid flt
    clear own hlx flt HR
    by_cases hlt : j < s.size
    · have h0j : (0 : Int) ≤ (j : Int) := by omega
      have h1j : (j : Int) < (s.size : Int) := by omega
      cases q1 : ((s[j].toNat : Int) == 32) with
      | true =>
        have HB := Lib.hid (lexS_blank (acc := acc) hlt (by rw [blank_of, q1]; rfl))
        have own := OW.out
        have flt := FL.out
        go_wp2_with fail
        go_roundw
        case rel => exact ⟨j + 1, by omega, by go_num, A', n, c', rfl, Lib.hid ⟨acc, hn, by omega, own, by rw [← HB.out]; exact HLX.out, flt⟩⟩
        case measure => simp [intOf]; omega
      | false =>
        cases q2 : ((s[j].toNat : Int) == 9) with
        | true =>
          have HB := Lib.hid (lexS_blank (acc := acc) hlt (by rw [blank_of, q1, q2]; rfl))
          have own := OW.out
          have flt := FL.out
          go_wp2_with fail
          go_roundw
          case rel => exact ⟨j + 1, by omega, by go_num, A', n, c', rfl, Lib.hid ⟨acc, hn, by omega, own, by rw [← HB.out]; exact HLX.out, flt⟩⟩
          case measure => simp [intOf]; omega
        | false =>
          cases q3 : ((s[j].toNat : Int) == 10) with
          | true =>
            have HB := Lib.hid (lexS_blank (acc := acc) hlt (by rw [blank_of, q1, q2, q3]; rfl))
            have own := OW.out
            have flt := FL.out
            go_wp2_with fail
            go_roundw
            case rel => exact ⟨j + 1, by omega, by go_num, A', n, c', rfl, Lib.hid ⟨acc, hn, by omega, own, by rw [← HB.out]; exact HLX.out, flt⟩⟩
            case measure => simp [intOf]; omega
          | false =>
            cases q4 : ((s[j].toNat : Int) == 13) with
            | true =>
              have HB := Lib.hid (lexS_blank (acc := acc) hlt (by rw [blank_of, q1, q2, q3, q4]; rfl))
              have own := OW.out
              have flt := FL.out
              go_wp2_with fail
              go_roundw
              case rel => exact ⟨j + 1, by omega, by go_num, A', n, c', rfl, Lib.hid ⟨acc, hn, by omega, own, by rw [← HB.out]; exact HLX.out, flt⟩⟩
              case measure => simp [intOf]; omega
            | false =>
              have HNB : Hid (blankB s[j] = false) := Lib.hid (by rw [blank_of, q1, q2, q3, q4]; rfl)
              have hbd := signP_bd s j hlt
              go_wp2_with fail
              refine (impl_signAt s j hlt (by omega) _ (TB.out.below OW.out.own)).mono ?_
              rintro e w1 ⟨rfl, b1⟩
              have O1 := Lib.hid (OW.out.below b1)
              have F1 := Lib.hid (FL.out.below b1)
              have HSG := Lib.hid (lexS_sign (acc := acc) hlt HNB.out)
              have HBD := Lib.hid (lexS_bad (acc := acc) hlt HNB.out)
              clear b1
              generalize hsp : signP s j hlt = sp at *
              obtain ⟨kd, en, ok⟩ := sp
              simp only at hbd HSG HBD
              cases ok with
              | false =>
                have HR : Hid (lexR s = ([], 2, (j : Int))) := Lib.hid (by rw [← HLX.out]; exact HBD.out rfl)
                obtain ⟨y0, y1, f0, f1⟩ := (F1.out.below (Below.alloc (Below.refl _ _) (Nat.le_refl _) (.cells #[.int .i64 kd, .string (s.extract j en), .int .i64 (j : Int)] 166))).cells
                go_wp2_with fail
                change bodyPost _ _ _ _ _ _
                refine bodyPost_ret (v := .tuple #[.slice none 0 0, .agg #[.int .i64 2, .int .i64 (j : Int)]]) (by simp [results, Tryd.results130, go_sem, y0, y1]) rfl ?_
                unfold RetL
                rw [HR.out]
                exact ⟨_, rfl, OutS.nil ((((O1.out.own.alloc O1.out.own.size _).setCell (by simp) _).setCell (by simp) _))⟩
              | true =>
                have HR : Hid (lexS s en (acc ++ [⟨kd, s.extract j en, j⟩]) = lexR s) := Lib.hid (by rw [← HLX.out]; exact (HSG.out rfl).symm)
                have hsz : (s.extract j en).size = en - j := by simp; omega
                obtain ⟨y0, y1, f0, f1⟩ := F1.out.cells
                go_wp2_with (at_builtin; refine wpList_appG_new (w1.heap.size + 1) (by simp) rfl _ _ _ rfl sgRT (O1.out.below (by repeat' (first | exact Below.refl _ _ | exact Nat.le_refl _ | (refine Below.alloc ?_ ?_ _) | (refine Below.setCell ?_ ?_ _) | (refine Below.drew ?_) | (refine below_drewN ?_ _) | assumption | (simp; done) | (simp; omega)))) _ 1 rfl rfl rfl (by simp [Value.oneCell']) (by simp only [maxLen]; omega) (by omega) ?_; intro v3 w3 own3 gr3; have O3 := Lib.hid own3; have G3 := Lib.hid gr3; have hb3 := grew_new O1.out gr3; have c31 : w3.cell? ⟨w1.heap.size, 1, none⟩ = some (.string (s.extract j en)) := (by simp [World.cell?, hb3]); clear own3 gr3 hb3)
                have O4 : Hid (OutS w w3 v3 (acc ++ [⟨kd, s.extract j en, j⟩])) := Lib.hid (by
                  unfold OutS
                  rw [List.length_append, sgF_snoc]
                  exact O3.out)
                have F4 := Lib.hid (F1.out.below (Below.alloc (Below.refl _ _) (Nat.le_refl _) (.cells #[.int .i64 kd, .string (s.extract j en), .int .i64 (j : Int)] 166)))
                have F5 := Lib.hid (F4.out.grew (O1.out.below (Below.alloc (Below.refl _ _) (Nat.le_refl _) _)) G3.out)
                obtain ⟨A3, c3, rfl⟩ := O4.out.slice
                have hen : ((en - j : Nat) : Int) = (en : Int) - (j : Int) := by omega
                clear O3 G3 y0 y1 f0 f1 F4
                go_roundw
                case rel => exact ⟨en, by omega, by go_num, A3, n + 1, c3, by first | rfl | (rw [List.length_append, hn]; rfl), Lib.hid ⟨_, by rw [List.length_append, hn]; rfl, by omega, by have := O4.out; rw [List.length_append, hn] at this; exact this, HR.out, F5.out⟩⟩
                case measure => simp [intOf]; omega
    · have h1j : ¬ (j : Int) < (s.size : Int) := by omega
      have HRR : Hid (lexR s = (acc, 0, 0)) := Lib.hid (by rw [← HLX.out]; exact lexS_end hlt)
      obtain ⟨y0, y1, f0, f1⟩ := FL.out.cells
      go_wp2_with fail
      change bodyPost _ _ _ _ _ _
      refine bodyPost_ret (v := .tuple #[.slice A' n c', .agg #[.int .i64 0, .int .i64 0]]) (by simp [results, Tryd.results130, go_sem, y0, y1]) rfl ?_
      unfold RetL
      rw [HRR.out]
      subst hn
      exact ⟨_, rfl, setC2 OW.out FL.out _ _ (Nat.le_refl _)⟩
end Go.Proofs.YtefcdpkficojgaaDoor
