/- The law over Cyclic. -/
import Derived.Test.YtfnjllaaadhbbaaCyclic
namespace Go.Proofs.Ytfnjllaaadhbbaa
open Go.RowKit
set_option linter.unusedVariables false

theorem own_ints {w0 w : World} {v : Value} {zs : List Int} (h : Own w0 w 3 1 v zs.length (zs.map (Value.int .i64))) : IsInts w v zs := by
  obtain ⟨A, c, rfl, hl⟩ := h.slice
  exact ⟨A, c, rfl, hl, own_cap' h, h.rd⟩
set_option maxHeartbeats 1600000 in
theorem law_Cyclic (n : Int) (v : Value) (ars : List Arc2) (u : Value) (zs : List Int) (w : World) (hn : (Lit.int .i64 n).wf = true) (o : IsArcs w v ars ∧ ∀ a ∈ ars, i64ok a.1 ∧ i64ok a.2) (oz : IsInts w u zs ∧ ∀ z ∈ zs, i64ok z) :
    Calls Try.prog 5 #[.int .i64 n, v, u] w fun e w' => e = .returned (.bool true) ∧ Below w.heap.size w w' := by
  have hn' := i64ok_of hn
  have HI := Lib.hid o.1
  have HZ := Lib.hid oz.1
  obtain ⟨A, c, rfl, hc1, hc2, _⟩ := oz.1
  unfold maxLen at hc2
  clear o oz hn
  by_cases h0 : 1048576 < zs.length
  · have h01 : (1048576 : Int) < (zs.length : Int) := by omega
    go_enter Try.func5, Try.ntmps5
    go_wp2_with fail
    go_ret
    exact ⟨rfl, Below.refl _ _⟩
  have h01 : ¬ ((1048576 : Int) < (zs.length : Int)) := by omega
  have hzl : zs.length ≤ 1048576 := by omega
  by_cases h2 : (1048576 : Int) - (ars.length : Int) < 0
  · go_enter Try.func5, Try.ntmps5
    go_wp2_with fail
    refine (laws_szArcS v ars 1048576 _ HI.out (by omega) (by omega)).mono ?_
    rintro e w' ⟨rfl, rfl⟩
    rw [if_pos h2]
    go_wp2_with fail
    go_ret
    exact ⟨rfl, Below.refl _ _⟩
  · have hl : ars.length ≤ 1048576 := by omega
    go_enter Try.func5, Try.ntmps5
    go_wp2_with fail
    refine (laws_szArcS v ars 1048576 _ HI.out (by omega) (by omega)).mono ?_
    rintro e w' ⟨rfl, rfl⟩
    rw [if_neg (by omega)]
    go_wp2_with fail
    refine (laws_toArcS v ars _ HI.out hl).mono ?_
    rintro e w1 ⟨v1, rfl, i1, b1⟩
    have I1 := Lib.hid i1
    have B1 := Lib.hid b1
    clear i1 b1
    go_wp2_with fail
    refine (laws_toIntS _ zs _ (HZ.out.below B1.out) hzl).mono ?_
    rintro e w2 ⟨v2, rfl, own2⟩
    have O2 := Lib.hid (own_ints own2)
    have B2 := Lib.hid (below_then B1.out own2.2)
    have I2 := Lib.hid (I1.out.below own2.2)
    clear own2
    go_wp2_with fail
    refine (spec_Cyclic n v1 v2 ars zs _ I2.out O2.out hn').mono ?_
    rintro e w3 ⟨rfl, b3⟩
    have B3 := Lib.hid (below_then B2.out b3)
    clear b3
    go_wp2_with fail
    refine (laws_toArcS v ars _ (HI.out.below B3.out) hl).mono ?_
    rintro e w4 ⟨v4, rfl, i4, b4⟩
    have I4 := Lib.hid i4
    have B4 := Lib.hid (below_then B3.out b4)
    clear i4 b4
    go_wp2_with fail
    refine (laws_toIntS _ zs _ (HZ.out.below B4.out) hzl).mono ?_
    rintro e w5 ⟨v5, rfl, own5⟩
    have O5 := Lib.hid (own_ints own5)
    have B5 := Lib.hid (below_then B4.out own5.2)
    have I5 := Lib.hid (I4.out.below own5.2)
    clear own5
    go_wp2_with fail
    refine (impl_Cyclic n v4 v5 ars zs _ I5.out O5.out).mono ?_
    rintro e w6 ⟨rfl, b6⟩
    have I6 := Lib.hid (I5.out.below b6)
    have O6 := Lib.hid (O5.out.below b6)
    have B6 := Lib.hid (below_then B5.out b6)
    clear b6
    have hb : (cycB n ars zs != cycB n ars zs) = false := by simp
    go_wp2_with fail
    refine (laws_toArcS v ars _ (HI.out.below B6.out) hl).mono ?_
    rintro e w7 ⟨v7, rfl, i7, b7⟩
    have I7 := Lib.hid i7
    have B7 := Lib.hid b7
    clear i7 b7
    go_wp2_with fail
    refine (laws_eqArcS v4 v7 ars ars _ (I6.out.below B7.out) I7.out).mono ?_
    rintro e w8 ⟨rfl, b8⟩
    have B8 := Lib.hid (below_then (below_then B6.out B7.out) b8)
    have O8 := Lib.hid ((O6.out.below B7.out).below b8)
    clear b8
    go_wp2_with fail
    refine (laws_toIntS _ zs _ (HZ.out.below B8.out) hzl).mono ?_
    rintro e w9 ⟨v9, rfl, own9⟩
    have O9 := Lib.hid (own_ints own9)
    have B9 := Lib.hid (below_then B8.out own9.2)
    have O8' := Lib.hid (O8.out.below own9.2)
    clear own9
    go_wp2_with fail
    refine (laws_eqIntS v5 v9 zs zs _ O8'.out O9.out).mono ?_
    rintro e w10 ⟨rfl, q10⟩
    have B10 := Lib.hid (below_then B9.out q10.below)
    clear q10
    go_wp2_with fail
    go_ret
    exact ⟨rfl, B10.out⟩
end Go.Proofs.Ytfnjllaaadhbbaa
