/- Reaches in the reference and in the program, and the law. -/
import Derived.Test.YtfnjllaaadhbbaaClosure
import Derived.Test.YtfnjllaaadhbbaaReach
namespace Go.Proofs.Ytfnjllaaadhbbaa
open Go.RowKit
set_option linter.unusedVariables false

def reachB (n : Int) (ars : List Arc2) (a b : Int) : Bool := graphB n ars && inB a 0 (n - 1) && inB b 0 (n - 1) && warsh (arcR ars) n.toNat a.toNat b.toNat
theorem graphB_inv {n : Int} {ars : List Arc2} (h : graphB n ars = true) : ∃ m : Nat, n = (m : Int) ∧ m ≤ 60 ∧ ars.length ≤ 2000 ∧ ars.all (arcOk (m : Int)) = true := by
  unfold graphB at h
  rw [Bool.and_eq_true, Bool.and_eq_true, decide_eq_true_eq] at h
  have h1 := inB_le h.1.1
  refine ⟨n.toNat, by omega, by omega, h.1.2, ?_⟩
  have : ((n.toNat : Nat) : Int) = n := by omega
  rw [this]; exact h.2
theorem inB_inv {a : Int} {m : Nat} (h : inB a 0 ((m : Int) - 1) = true) : ∃ i : Nat, a = (i : Int) ∧ i < m := by
  have := inB_le h
  exact ⟨a.toNat, by omega, by omega⟩
set_option maxHeartbeats 1600000 in
theorem spec_Reaches (n : Int) (v : Value) (ars : List Arc2) (a b : Int) (w : World) (h : IsArcs w v ars) (hn : i64ok n) :
    Calls Try.prog 16 #[.int .i64 n, v, .int .i64 a, .int .i64 b] w fun e w' => e = .returned (.bool (reachB n ars a b)) ∧ Below w.heap.size w w' := by
  have HI := Lib.hid h
  clear h
  cases h1 : graphB n ars with
  | false =>
    have F : Hid (reachB n ars a b = false) := Lib.hid (by unfold reachB; rw [h1]; rfl)
    go_enter Try.func16, Try.ntmps16
    go_wp2_with fail
    refine (spec_GraphOk n v ars _ HI.out hn).mono ?_
    rintro e w1 ⟨rfl, rfl⟩
    rw [h1]
    go_wp2_with fail
    go_ret
    exact ⟨ret_bool F.out.symm, Below.refl _ _⟩
  | true =>
    obtain ⟨m, rfl, hm, hal, hok⟩ := graphB_inv h1
    have OK := Lib.hid hok
    have G1 := Lib.hid h1
    clear hok h1
    cases h2 : inB a 0 ((m : Int) - 1) with
    | false =>
      have F : Hid (reachB m ars a b = false) := Lib.hid (by unfold reachB; rw [h2, G1.out]; rfl)
      go_enter Try.func16, Try.ntmps16
      go_wp2_with fail
      refine (spec_GraphOk m v ars _ HI.out hn).mono ?_
      rintro e w1 ⟨rfl, rfl⟩
      rw [G1.out]
      go_wp2_with fail
      refine (spec_l01In a 0 _ _).mono ?_
      rintro e w1 ⟨rfl, rfl⟩
      rw [h2]
      go_wp2_with fail
      go_ret
      exact ⟨ret_bool F.out.symm, Below.refl _ _⟩
    | true =>
      obtain ⟨i, rfl, hi⟩ := inB_inv h2
      have G2 := Lib.hid h2
      clear h2
      cases h3 : inB b 0 ((m : Int) - 1) with
      | false =>
        have F : Hid (reachB m ars i b = false) := Lib.hid (by unfold reachB; rw [h3, G1.out, G2.out]; rfl)
        go_enter Try.func16, Try.ntmps16
        go_wp2_with fail
        refine (spec_GraphOk m v ars _ HI.out hn).mono ?_
        rintro e w1 ⟨rfl, rfl⟩
        rw [G1.out]
        go_wp2_with fail
        refine (spec_l01In i 0 _ _).mono ?_
        rintro e w1 ⟨rfl, rfl⟩
        rw [G2.out]
        go_wp2_with fail
        refine (spec_l01In b 0 _ _).mono ?_
        rintro e w1 ⟨rfl, rfl⟩
        rw [h3]
        go_wp2_with fail
        go_ret
        exact ⟨ret_bool F.out.symm, Below.refl _ _⟩
      | true =>
        obtain ⟨j, rfl, hj⟩ := inB_inv h3
        have G3 := Lib.hid h3
        clear h3
        have F : Hid (reachB m ars i j = warsh (arcR ars) m i j) := Lib.hid (by unfold reachB; rw [G1.out, G2.out, G3.out]; rfl)
        go_enter Try.func16, Try.ntmps16
        go_wp2_with fail
        refine (spec_GraphOk m v ars _ HI.out hn).mono ?_
        rintro e w1 ⟨rfl, rfl⟩
        rw [G1.out]
        go_wp2_with fail
        refine (spec_l01In i 0 _ _).mono ?_
        rintro e w1 ⟨rfl, rfl⟩
        rw [G2.out]
        go_wp2_with fail
        refine (spec_l01In j 0 _ _).mono ?_
        rintro e w1 ⟨rfl, rfl⟩
        rw [G3.out]
        go_wp2_with fail
        refine (spec_l11Reach m v ars _ HI.out hm OK.out hal).mono ?_
        rintro e w2 ⟨A2, c2, gs, rfl, hgl, hcm, mo⟩
        unfold maxLen at hcm
        have hil : i < gs.length := by omega
        obtain ⟨b2, rfl, hrow⟩ := mo.rd hil
        have hcell := mo.cell hil hj
        have h0i : (0 : Int) ≤ (i : Int) := by omega
        have h1i : (i : Int) < (m : Int) := by omega
        have h0j : (0 : Int) ≤ (j : Int) := by omega
        have h1j : (j : Int) < (m : Int) := by omega
        have MB := Lib.hid mo.own.2
        clear mo
        generalize warsh (arcR ars) m i j = rr at *
        clear hgl
        go_wp2_with fail
        go_ret
        exact ⟨ret_bool F.out.symm, MB.out⟩
theorem inB_cases (a : Int) (m : Nat) : (decide (a < 0) = true ∧ inB a 0 ((m : Int) - 1) = false) ∨ (decide (a < 0) = false ∧ decide ((m : Int) ≤ a) = true ∧ inB a 0 ((m : Int) - 1) = false) ∨ (decide (a < 0) = false ∧ decide ((m : Int) ≤ a) = false ∧ inB a 0 ((m : Int) - 1) = true) := by
  by_cases h1 : a < 0
  · exact .inl ⟨decide_eq_true h1, inB_no (by omega)⟩
  · by_cases h2 : (m : Int) ≤ a
    · exact .inr (.inl ⟨decide_eq_false h1, decide_eq_true h2, inB_no (by omega)⟩)
    · exact .inr (.inr ⟨decide_eq_false h1, decide_eq_false h2, inB_yes (by omega) (by omega)⟩)
set_option maxHeartbeats 1600000 in
theorem impl_Reaches (n : Int) (v : Value) (ars : List Arc2) (a b : Int) (w : World) (h : IsArcs w v ars) :
    Calls Try.prog 12 #[.int .i64 n, v, .int .i64 a, .int .i64 b] w fun e w' => e = .returned (.bool (reachB n ars a b)) ∧ Below w.heap.size w w' := by
  have HI := Lib.hid h
  clear h
  cases h1 : graphB n ars with
  | false =>
    have F : Hid (reachB n ars a b = false) := Lib.hid (by unfold reachB; rw [h1]; rfl)
    go_enter Try.func12, Try.ntmps12
    go_wp2_with fail
    refine (impl_GraphOk n v ars _ HI.out).mono ?_
    rintro e w1 ⟨rfl, b1⟩
    have B1 := Lib.hid b1
    rw [h1]
    clear b1
    go_wp2_with fail
    go_ret
    exact ⟨ret_bool F.out.symm, B1.out⟩
  | true =>
    obtain ⟨m, rfl, hm, hal, hok⟩ := graphB_inv h1
    have OK := Lib.hid hok
    have G1 := Lib.hid h1
    clear hok h1
    rcases inB_cases a m with ⟨ha, h2⟩ | ⟨ha, ha2, h2⟩ | ⟨ha, ha2, h2⟩
    case inr.inr =>
      obtain ⟨i, rfl, hi⟩ := inB_inv h2
      have G2 := Lib.hid h2
      clear h2
      rcases inB_cases b m with ⟨hb, h3⟩ | ⟨hb, hb2, h3⟩ | ⟨hb, hb2, h3⟩
      case inr.inr =>
        obtain ⟨j, rfl, hj⟩ := inB_inv h3
        have G3 := Lib.hid h3
        clear h3
        have F : Hid (reachB m ars i j = warsh (arcR ars) m i j) := Lib.hid (by unfold reachB; rw [G1.out, G2.out, G3.out]; rfl)
        have h0i : (0 : Int) ≤ (i : Int) := by omega
        have h1i : (i : Int) < (m : Int) := by omega
        have h0j : (0 : Int) ≤ (j : Int) := by omega
        have h1j : (j : Int) < (m : Int) := by omega
        clear ha ha2 hb hb2
        go_enter Try.func12, Try.ntmps12
        go_wp2_with fail
        refine (impl_GraphOk m v ars _ HI.out).mono ?_
        rintro e w1 ⟨rfl, b1⟩
        have B1 := Lib.hid b1
        rw [G1.out]
        clear b1
        go_wp2_with fail
        refine (impl_closure m v ars _ (HI.out.below B1.out) hm OK.out hal).mono ?_
        rintro e w2 ⟨g, rows, rfl, ro, bi⟩
        have hil : i < rows.length := by have := ro.len; omega
        have hcell := ro.cell hil
        have hr64 : rows[i] < M64 := bits_lt bi ((inR_arcs OK.out).warsh m) (by simpa using hm) hil
        have htest := test_of hr64 (show j < 60 by omega)
        have htest2 : (bits .and .u64 ((rows[i] : Int) / 2 ^ j) 1 == 1) = rows[i].testBit j := by rw [← htest, show min j 64 = j from by omega]
        have hbit := bi i hil j
        rw [hbit] at htest htest2
        have MB := Lib.hid (below_then B1.out ro.own.2)
        clear ro bi hbit
        generalize warsh (arcR ars) m i j = rr at *
        go_wp2_with fail
        go_ret
        exact ⟨ret_bool F.out.symm, MB.out⟩
      all_goals
        have F : Hid (reachB m ars i b = false) := Lib.hid (by unfold reachB; rw [h3, G1.out, G2.out]; rfl)
        clear h3
        go_enter Try.func12, Try.ntmps12
        go_wp2_with fail
        refine (impl_GraphOk m v ars _ HI.out).mono ?_
        rintro e w1 ⟨rfl, b1⟩
        have B1 := Lib.hid b1
        rw [G1.out]
        clear b1
        go_wp2_with fail
        go_ret
        exact ⟨ret_bool F.out.symm, B1.out⟩
    all_goals
      have F : Hid (reachB m ars a b = false) := Lib.hid (by unfold reachB; rw [h2, G1.out]; rfl)
      clear h2
      go_enter Try.func12, Try.ntmps12
      go_wp2_with fail
      refine (impl_GraphOk m v ars _ HI.out).mono ?_
      rintro e w1 ⟨rfl, b1⟩
      have B1 := Lib.hid b1
      rw [G1.out]
      clear b1
      go_wp2_with fail
      go_ret
      exact ⟨ret_bool F.out.symm, B1.out⟩
set_option maxHeartbeats 800000 in
theorem law_Reaches (n : Int) (v : Value) (ars : List Arc2) (a b : Int) (w : World) (hn : (Lit.int .i64 n).wf = true) (o : IsArcs w v ars ∧ ∀ a ∈ ars, i64ok a.1 ∧ i64ok a.2) (_ha : (Lit.int .i64 a).wf = true) (_hb : (Lit.int .i64 b).wf = true) :
    Calls Try.prog 4 #[.int .i64 n, v, .int .i64 a, .int .i64 b] w fun e w' => e = .returned (.bool true) ∧ Below w.heap.size w w' := by
  have hn' := i64ok_of hn
  have HI := Lib.hid o.1
  clear o hn _ha _hb
  by_cases h2 : (1048576 : Int) - (ars.length : Int) < 0
  · go_enter Try.func4, Try.ntmps4
    go_wp2_with fail
    refine (laws_szArcS v ars 1048576 _ HI.out (by omega) (by omega)).mono ?_
    rintro e w' ⟨rfl, rfl⟩
    rw [if_pos h2]
    go_wp2_with fail
    go_ret
    exact ⟨rfl, Below.refl _ _⟩
  · have hl : ars.length ≤ 1048576 := by omega
    go_enter Try.func4, Try.ntmps4
    go_wp2_with fail
    refine (laws_szArcS v ars 1048576 _ HI.out (by omega) (by omega)).mono ?_
    rintro e w' ⟨rfl, rfl⟩
    rw [if_neg (by omega)]
    go_wp2_with fail
    refine (laws_toArcS v ars _ HI.out hl).mono ?_
    rintro e w1 ⟨v1, rfl, i1, b1⟩
    have I1 := Lib.hid i1
    have B1 := Lib.hid b1
    clear i1 b1
    go_wp2_with fail
    refine (spec_Reaches n v1 ars a b _ I1.out hn').mono ?_
    rintro e w2 ⟨rfl, b2⟩
    have B2 := Lib.hid (below_then B1.out b2)
    clear b2
    go_wp2_with fail
    refine (laws_toArcS v ars _ (HI.out.below B2.out) hl).mono ?_
    rintro e w3 ⟨v3, rfl, i3, b3⟩
    have I3 := Lib.hid i3
    have B3 := Lib.hid (below_then B2.out b3)
    clear i3 b3
    go_wp2_with fail
    refine (impl_Reaches n v3 ars a b _ I3.out).mono ?_
    rintro e w4 ⟨rfl, b4⟩
    have I4 := Lib.hid (I3.out.below b4)
    have B4 := Lib.hid (below_then B3.out b4)
    clear b4
    have hb : (reachB n ars a b != reachB n ars a b) = false := by simp
    go_wp2_with fail
    refine (laws_toArcS v ars _ (HI.out.below B4.out) hl).mono ?_
    rintro e w5 ⟨v5, rfl, i5, b5⟩
    have I5 := Lib.hid i5
    have B5 := Lib.hid b5
    clear i5 b5
    go_wp2_with fail
    refine (laws_eqArcS v3 v5 ars ars _ (I4.out.below B5.out) I5.out).mono ?_
    rintro e w6 ⟨rfl, b6⟩
    have B6 := Lib.hid (below_then (below_then B4.out B5.out) b6)
    clear b6
    go_wp2_with fail
    go_ret
    exact ⟨rfl, B6.out⟩
end Go.Proofs.Ytfnjllaaadhbbaa
