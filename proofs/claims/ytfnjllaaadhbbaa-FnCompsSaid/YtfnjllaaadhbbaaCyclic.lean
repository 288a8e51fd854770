/- Cyclic in the reference and in the program, and the law. -/
import Derived.Test.YtfnjllaaadhbbaaReaches
import Derived.Test.YtfnjllaaadhbbaaInts
import Derived.IntWalk
import Derived.Deep.QuietTactic
import Derived.BigQuiet
namespace Go.Proofs.Ytfnjllaaadhbbaa
open Go.RowKit
set_option linter.unusedVariables false

def cycAt (n : Nat) (R : Rel) (x : Int) : Bool := inB x 0 ((n : Int) - 1) && R x.toNat x.toNat
def cycB (n : Int) (ars : List Arc2) (zs : List Int) : Bool := graphB n ars && zs.any (cycAt n.toNat (warsh (arcR ars) n.toNat))
theorem any_no_take {f : Int → Bool} {zs : List Int} {k : Nat} (hk : k < zs.length) (h : (zs.take k).any f = false) (e : f zs[k] = false) : (zs.take (k + 1)).any f = false := by
  have e1 : zs.take (k + 1) = zs.take k ++ [zs[k]] := List.take_succ_eq_append_getElem hk
  rw [e1, List.any_append, h]; simp [e]
theorem any_yes_at {f : Int → Bool} {zs : List Int} {k : Nat} (hk : k < zs.length) (e : f zs[k] = true) : zs.any f = true := List.any_eq_true.2 ⟨_, List.getElem_mem hk, e⟩
theorem in_lit {x a b : Int} {r : Bool} (h : inB x a b = r) (w : World) : Calls Try.prog 29 #[.int .i64 x, .int .i64 a, .int .i64 b] w fun e w' => e = .returned (.bool r) ∧ w = w' := by
  subst h
  exact spec_l01In x a b w
set_option maxHeartbeats 3200000 in
theorem spec_Cyclic (n : Int) (v u : Value) (ars : List Arc2) (zs : List Int) (w : World) (h : IsArcs w v ars) (hz : IsInts w u zs) (hn : i64ok n) :
    Calls Try.prog 19 #[.int .i64 n, v, u] w fun e w' => e = .returned (.bool (cycB n ars zs)) ∧ Below w.heap.size w w' := by
  have HI := Lib.hid h
  obtain ⟨A, c, rfl, h2, h3, rd⟩ := hz
  unfold maxLen at h3
  have RD := Lib.hid rd
  clear h rd
  cases h1 : graphB n ars with
  | false =>
    have F : Hid (cycB n ars zs = false) := Lib.hid (by unfold cycB; rw [h1]; rfl)
    go_enter Try.func19, Try.ntmps19
    go_wp2_with fail
    refine (spec_GraphOk n v ars _ HI.out hn).mono ?_
    rintro e w1 ⟨rfl, rfl⟩
    rw [h1]
    go_wp2_with fail
    go_ret
    exact ⟨ret_bool F.out.symm, Below.refl _ _⟩
  | true =>
    obtain ⟨m, rfl, hm, hal, hok⟩ := graphB_inv h1
    have OK := Lib.hid hok
    have G1 := Lib.hid h1
    have F : Hid (cycB m ars zs = zs.any (cycAt m (warsh (arcR ars) m))) := Lib.hid (by unfold cycB; rw [h1]; rfl)
    clear hok h1
    go_enter Try.func19, Try.ntmps19
    go_wp2_with fail
    refine (spec_GraphOk m v ars _ HI.out hn).mono ?_
    rintro e w1 ⟨rfl, rfl⟩
    rw [G1.out]
    go_wp2_with fail
    refine (spec_l11Reach m v ars _ HI.out hm OK.out hal).mono ?_
    rintro e w2 ⟨A2, c2, gs, rfl, hgl, hcm, mo⟩
    unfold maxLen at hcm
    have MO := Lib.hid mo
    have GL := Lib.hid hgl
    clear mo hgl
    generalize hWW : warsh (arcR ars) m = W at *
    clear hWW
    go_wp2_with fail
    go_loopw [8] (fun i wr => ∃ k : Nat, k ≤ zs.length ∧ i = .int .i64 k ∧ Hid ((zs.take k).any (cycAt m W) = false ∧ Qt w2 wr)) (fun i _ => zs.length - (intOf i).toNat)
    case atStart => exact ⟨0, Nat.zero_le _, rfl, Lib.hid ⟨by simp, Qt.refl _⟩⟩
    case round =>
      obtain ⟨k, hk, rfl, HT⟩ := hrel
      have MW := Lib.hid (MO.out.below HT.out.2.below)
      by_cases hlt : k < zs.length
      · obtain ⟨b, off, rfl, hcell⟩ := rd_int (RD.out.below MW.out.own.2) hlt
        have h0k : (0 : Int) ≤ (k : Int) := by omega
        have h1k : (k : Int) < (zs.length : Int) := by omega
        have WR : Hid (IntKind.i64.wrap ((m : Int) - 1) = (m : Int) - 1) := Lib.hid (IntWalk.i64_in _ (by omega))
        cases hx : inB zs[k] 0 ((m : Int) - 1) with
        | false =>
          have T : Hid ((zs.take (k + 1)).any (cycAt m W) = false) := Lib.hid (any_no_take hlt HT.out.1 (by unfold cycAt; rw [hx]; rfl))
          have HY := Lib.hid hx
          have HX : Hid (inB zs[k] 0 (IntKind.i64.wrap ((m : Int) - 1)) = false) := Lib.hid (by rw [WR.out]; exact hx)
          have HC := Lib.hid hcell
          clear hx
          go_wp2_with fail
          go_quiet ((go_at_call 29; first | (with_reducible exact Calls.quiet_of_same (still_of (in_lit HY.out _))) | (with_reducible exact Calls.quiet_of_same (still_of (in_lit HX.out _)))))
          go_wp2_with fail
          go_roundw
          case rel => exact ⟨k + 1, by omega, by go_num, Lib.hid ⟨T.out, HT.out.2.trans (Qt.of_drewN _ _)⟩⟩
          case measure => simp [intOf]; omega
        | true =>
          obtain ⟨i, hzi, hi⟩ := inB_inv hx
          have hil : i < gs.length := by have := GL.out; omega
          obtain ⟨b2, rfl, hrow⟩ := MW.out.rd hil
          have hc2 := MW.out.cell hil hi
          have h0i : (0 : Int) ≤ (i : Int) := by omega
          have h1i : (i : Int) < (m : Int) := by omega
          have HX := Lib.hid hx
          have HZ := Lib.hid hzi
          rw [hzi] at hcell hx
          have HY2 := Lib.hid hx
          have HX2 : Hid (inB (i : Int) 0 (IntKind.i64.wrap ((m : Int) - 1)) = true) := Lib.hid (by rw [WR.out]; exact hx)
          have HC := Lib.hid hcell
          have HR := Lib.hid hrow
          have HC2 := Lib.hid hc2
          have hcy : cycAt m W zs[k] = W i i := by unfold cycAt; rw [HX.out, hzi]; rfl
          clear hx hzi
          cases hw : W i i with
          | false =>
            have T : Hid ((zs.take (k + 1)).any (cycAt m W) = false) := Lib.hid (any_no_take hlt HT.out.1 (by rw [hcy, hw]))
            rw [hw] at hc2
            have HC3 := Lib.hid hc2
            clear hw hcy HC2
            go_wp2_with fail
            go_quiet ((go_at_call 29; first | (with_reducible exact Calls.quiet_of_same (still_of (in_lit HY2.out _))) | (with_reducible exact Calls.quiet_of_same (still_of (in_lit HX2.out _)))))
            go_wp2_with fail
            go_roundw
            case rel => exact ⟨k + 1, by omega, by go_num, Lib.hid ⟨T.out, HT.out.2.trans (Qt.of_drewN _ _)⟩⟩
            case measure => simp [intOf]; omega
          | true =>
            have T : Hid (zs.any (cycAt m W) = true) := Lib.hid (any_yes_at hlt (by rw [hcy, hw]))
            rw [hw] at hc2
            have HC3 := Lib.hid hc2
            clear hw hcy HC2
            go_wp2_with fail
            go_quiet ((go_at_call 29; first | (with_reducible exact Calls.quiet_of_same (still_of (in_lit HY2.out _))) | (with_reducible exact Calls.quiet_of_same (still_of (in_lit HX2.out _)))))
            go_wp2_with fail
            go_ret
            exact ⟨ret_bool (by rw [F.out, T.out]), below_drewN (below_then MO.out.own.2 HT.out.2.below) _⟩
      · have T : Hid (zs.any (cycAt m W) = false) := Lib.hid (by have := HT.out.1; rwa [List.take_of_length_le (by omega)] at this)
        go_wp2_with fail
        go_ret
        exact ⟨ret_bool (by rw [F.out, T.out]), MW.out.own.2⟩
set_option maxHeartbeats 3200000 in
theorem impl_Cyclic (n : Int) (v u : Value) (ars : List Arc2) (zs : List Int) (w : World) (h : IsArcs w v ars) (hz : IsInts w u zs) :
    Calls Try.prog 14 #[.int .i64 n, v, u] w fun e w' => e = .returned (.bool (cycB n ars zs)) ∧ Below w.heap.size w w' := by
  have HI := Lib.hid h
  obtain ⟨A, c, rfl, h2, h3, rd⟩ := hz
  unfold maxLen at h3
  have RD := Lib.hid rd
  clear h rd
  cases h1 : graphB n ars with
  | false =>
    have F : Hid (cycB n ars zs = false) := Lib.hid (by unfold cycB; rw [h1]; rfl)
    go_enter Try.func14, Try.ntmps14
    go_wp2_with fail
    refine (impl_GraphOk n v ars _ HI.out).mono ?_
    rintro e w1 ⟨rfl, b1⟩
    have B1 := Lib.hid b1
    rw [h1]
    clear b1
    go_wp2_with fail
    go_ret
    exact ⟨ret_bool F.out.symm, B1.out⟩
  | true =>
    obtain ⟨m, rfl, hm, hal, hok⟩ := graphB_inv h1
    have OK := Lib.hid hok
    have G1 := Lib.hid h1
    have F : Hid (cycB m ars zs = zs.any (cycAt m (warsh (arcR ars) m))) := Lib.hid (by unfold cycB; rw [h1]; rfl)
    clear hok h1
    go_enter Try.func14, Try.ntmps14
    go_wp2_with fail
    refine (impl_GraphOk m v ars _ HI.out).mono ?_
    rintro e w1 ⟨rfl, b1⟩
    have B1 := Lib.hid b1
    rw [G1.out]
    clear b1
    go_wp2_with fail
    refine (impl_closure m v ars _ (HI.out.below B1.out) hm OK.out hal).mono ?_
    rintro e w2 ⟨g, rows, rfl, ro, bi⟩
    have IN := Lib.hid ((inR_arcs OK.out).warsh m)
    have RO := Lib.hid ro
    have BI := Lib.hid bi
    clear ro bi
    generalize hWW : warsh (arcR ars) m = W at *
    clear hWW
    go_wp2_with fail
    go_loop [19] (fun i => ∃ k : Nat, k ≤ zs.length ∧ i = .int .i64 k ∧ Hid ((zs.take k).any (cycAt m W) = false)) (fun i => zs.length - (intOf i).toNat)
    case atStart => exact ⟨0, Nat.zero_le _, rfl, Lib.hid (by simp)⟩
    case round =>
      obtain ⟨k, hk, rfl, HT⟩ := hrel
      by_cases hlt : k < zs.length
      · obtain ⟨b, off, rfl, hcell⟩ := rd_int ((RD.out.below B1.out).below RO.out.own.2) hlt
        have h0k : (0 : Int) ≤ (k : Int) := by omega
        have h1k : (k : Int) < (zs.length : Int) := by omega
        rcases inB_cases zs[k] m with ⟨ha, hx⟩ | ⟨ha, ha2, hx⟩ | ⟨ha, ha2, hx⟩
        case inr.inr =>
          obtain ⟨i, hzi, hi⟩ := inB_inv hx
          have hil : i < rows.length := by have := RO.out.len; omega
          have hc2 := RO.out.cell hil
          have h0i : (0 : Int) ≤ (i : Int) := by omega
          have h1i : (i : Int) < (m : Int) := by omega
          have hr64 : rows[i] < M64 := bits_lt BI.out IN.out (by simpa using hm) hil
          have htest := test_of hr64 (show i < 60 by omega)
          have htest2 : (bits .and .u64 ((rows[i] : Int) / 2 ^ i) 1 == 1) = rows[i].testBit i := by rw [← htest, show min i 64 = i from by omega]
          have hbit := BI.out i hil i
          rw [hbit] at htest htest2
          have hcy : cycAt m W zs[k] = W i i := by unfold cycAt; rw [hx, hzi]; rfl
          rw [hzi] at hcell
          clear hx ha ha2 hbit
          cases hw : W i i with
          | false =>
            have T : Hid ((zs.take (k + 1)).any (cycAt m W) = false) := Lib.hid (any_no_take hlt HT.out (by rw [hcy, hw]))
            rw [hw] at htest htest2
            clear hw hcy hzi
            go_wp2_with fail
            go_round
            case rel => exact ⟨k + 1, by omega, by go_num, T⟩
            case measure => simp [intOf]; omega
          | true =>
            have T : Hid (zs.any (cycAt m W) = true) := Lib.hid (any_yes_at hlt (by rw [hcy, hw]))
            rw [hw] at htest htest2
            clear hw hcy hzi
            go_wp2_with fail
            go_ret
            exact ⟨ret_bool (by rw [F.out, T.out]), below_then B1.out RO.out.own.2⟩
        all_goals
          have T : Hid ((zs.take (k + 1)).any (cycAt m W) = false) := Lib.hid (any_no_take hlt HT.out (by unfold cycAt; rw [hx]; rfl))
          clear hx
          first | (rw [decide_eq_true_eq] at ha; have ha3 : ¬ (0 ≤ zs[k]) := (by omega)) | (rw [decide_eq_false_iff_not] at ha; rw [decide_eq_true_eq] at ha2; have ha3 : 0 ≤ zs[k] := (by omega); have ha4 : ¬ (zs[k] < (m : Int)) := (by omega))
          go_wp2_with fail
          go_round
          case rel => exact ⟨k + 1, by omega, by go_num, T⟩
          case measure => simp [intOf]; omega
      · have T : Hid (zs.any (cycAt m W) = false) := Lib.hid (by have := HT.out; rwa [List.take_of_length_le (by omega)] at this)
        go_wp2_with fail
        go_ret
        exact ⟨ret_bool (by rw [F.out, T.out]), below_then B1.out RO.out.own.2⟩
end Go.Proofs.Ytfnjllaaadhbbaa
