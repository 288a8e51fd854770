/- The law over SameStmts. -/
import Derived.Test.YtldojkhnlpbkeaaSameSt
namespace Go.Proofs.Ytldojkhnlpbkeaa
open Go.RowKit
set_option linter.unusedVariables false

set_option maxHeartbeats 1600000 in
theorem law_SameStmts (v : Value) (l : List St) (v' : Value) (r : List St) (w : World) (o : IsStmts AnyB w v l) (o' : IsStmts AnyB w v' r) :
    Calls Try.prog 7 #[v, v'] w fun e w' => e = .returned (.bool true) ∧ Below w.heap.size w w' := by
  obtain ⟨A, c, rfl, hl, hc, row⟩ := o
  obtain ⟨A', c', rfl, hl', hc', row'⟩ := o'
  have RW := Lib.hid row
  have RW' := Lib.hid row'
  clear row row'
  by_cases h1 : (1048576 : Int) - (totGs l : Int) < 0
  · have C1 := Lib.hid (cut0_neg h1)
    go_enter Try.func7, Try.ntmps7
    go_wp2_with fail
    refine (laws_szStmtS l (fun g _ => laws_szStmt g) A c _ 1048576 RW.out hl hc (by omega) (by omega)).mono ?_
    rintro e w1 ⟨rfl, b1⟩
    rw [C1.out]
    have B1 := Lib.hid b1
    clear b1
    go_wp2_with fail
    go_ret
    exact ⟨rfl, B1.out⟩
  have C1 := Lib.hid (cut0_pos (n := (1048576 : Int) - (totGs l : Int)) (by omega))
  have htot : totGs l ≤ 1048576 := by omega
  have h1' : 0 ≤ (1048576 : Int) - (totGs l : Int) := by omega
  by_cases h2 : (1048576 : Int) - (totGs l : Int) - (totGs r : Int) < 0
  · have C2 := Lib.hid (cut0_neg h2)
    go_enter Try.func7, Try.ntmps7
    go_wp2_with fail
    refine (laws_szStmtS l (fun g _ => laws_szStmt g) A c _ 1048576 RW.out hl hc (by omega) (by omega)).mono ?_
    rintro e w1 ⟨rfl, b1⟩
    rw [C1.out]
    have B1 := Lib.hid b1
    clear b1
    go_wp2_with fail
    refine (laws_szStmtS r (fun g _ => laws_szStmt g) A' c' _ _ (RW'.out.belowA B1.out) hl' hc' (by omega) (by omega)).mono ?_
    rintro e w2 ⟨rfl, b2⟩
    rw [C2.out]
    have B2 := Lib.hid (below_then B1.out b2)
    clear b2
    go_wp2_with fail
    go_ret
    exact ⟨rfl, B2.out⟩
  have C2 := Lib.hid (cut0_pos (n := (1048576 : Int) - (totGs l : Int) - (totGs r : Int)) (by omega))
  have htot' : totGs r ≤ 1048576 := by omega
  have h2' : 0 ≤ (1048576 : Int) - (totGs l : Int) - (totGs r : Int) := by omega
  go_enter Try.func7, Try.ntmps7
  go_wp2_with fail
  refine (laws_szStmtS l (fun g _ => laws_szStmt g) A c _ 1048576 RW.out hl hc (by omega) (by omega)).mono ?_
  rintro e w1 ⟨rfl, b1⟩
  rw [C1.out]
  have B1 := Lib.hid b1
  clear b1
  go_wp2_with fail
  refine (laws_szStmtS r (fun g _ => laws_szStmt g) A' c' _ _ (RW'.out.belowA B1.out) hl' hc' (by omega) (by omega)).mono ?_
  rintro e w2 ⟨rfl, b2⟩
  rw [C2.out]
  have B2 := Lib.hid (below_then B1.out b2)
  clear b2
  go_wp2_with fail
  refine (laws_toStmtS l (fun g _ => laws_toStmt g) A c _ (RW.out.belowA B2.out) hl hc htot).mono ?_
  rintro e w3 ⟨A3, c3, rfl, hl3, hc3, row3, b3⟩
  have B3 := Lib.hid (below_then B2.out b3)
  have R3 := Lib.hid row3.any
  clear b3 row3
  go_wp2_with fail
  refine (laws_toStmtS r (fun g _ => laws_toStmt g) A' c' _ (RW'.out.belowA B3.out) hl' hc' htot').mono ?_
  rintro e w4 ⟨A4, c4, rfl, hl4, hc4, row4, b4⟩
  have B4 := Lib.hid (below_then B3.out b4)
  have R4 := Lib.hid row4.any
  have S4 := Lib.hid (R3.out.belowA b4)
  clear b4 row4
  go_wp2_with fail
  refine (spec_SameStmts l r A3 A4 c3 c4 _ S4.out R4.out hl3 hl4 hc3 hc4).mono ?_
  rintro e w5 ⟨rfl, b5⟩
  have B5 := Lib.hid (below_then B4.out b5)
  clear b5
  go_wp2_with fail
  refine (laws_toStmtS l (fun g _ => laws_toStmt g) A c _ (RW.out.belowA B5.out) hl hc htot).mono ?_
  rintro e w6 ⟨A6, c6, rfl, hl6, hc6, row6, b6⟩
  have B6 := Lib.hid (below_then B5.out b6)
  have R6 := Lib.hid row6
  have Z6 := Lib.hid b6.size
  clear b6 row6
  go_wp2_with fail
  refine (laws_toStmtS r (fun g _ => laws_toStmt g) A' c' _ (RW'.out.belowA B6.out) hl' hc' htot').mono ?_
  rintro e w7 ⟨A7, c7, rfl, hl7, hc7, row7, b7⟩
  have B7 := Lib.hid (below_then B6.out b7)
  have R7 := Lib.hid (row7.mono Z6.out)
  have S7 := Lib.hid (R6.out.belowF b7)
  clear b7 row7
  go_wp2_with fail
  refine (impl_SameStmts l r A6 A7 c6 c7 _ _ S7.out R7.out hl6 hl7 hc6 hc7).mono ?_
  rintro e w8 ⟨rfl, b8⟩
  have B8 := Lib.hid (below_then B7.out b8)
  have R8 := Lib.hid (S7.out.any.belowA b8)
  have S8 := Lib.hid (R7.out.any.belowA b8)
  have hne : (samesG l r != samesG l r) = false := by simp
  clear b8
  go_wp2_with fail
  refine (laws_toStmtS l (fun g _ => laws_toStmt g) A c _ (RW.out.belowA B8.out) hl hc htot).mono ?_
  rintro e w9 ⟨A9, c9, rfl, hl9, hc9, row9, b9⟩
  have B9 := Lib.hid (below_then B8.out b9)
  have R9 := Lib.hid row9.any
  have T9 := Lib.hid (R8.out.belowA b9)
  have S9 := Lib.hid (S8.out.belowA b9)
  clear b9 row9
  go_wp2_with fail
  refine (laws_eqStmtS l l (fun g _ => laws_eqStmt g) A6 A9 c6 c9 _ T9.out R9.out hl6 hl9 hc6 hc9).mono ?_
  rintro e w10 ⟨rfl, b10⟩
  have B10 := Lib.hid (below_then B9.out b10)
  have S10 := Lib.hid (S9.out.belowA b10)
  clear b10
  rw [samesG_yes rfl]
  go_wp2_with fail
  refine (laws_toStmtS r (fun g _ => laws_toStmt g) A' c' _ (RW'.out.belowA B10.out) hl' hc' htot').mono ?_
  rintro e w11 ⟨A11, c11, rfl, hl11, hc11, row11, b11⟩
  have B11 := Lib.hid (below_then B10.out b11)
  have R11 := Lib.hid row11.any
  have S11 := Lib.hid (S10.out.belowA b11)
  clear b11 row11
  go_wp2_with fail
  refine (laws_eqStmtS r r (fun g _ => laws_eqStmt g) A7 A11 c7 c11 _ S11.out R11.out hl7 hl11 hc7 hc11).mono ?_
  rintro e w12 ⟨rfl, b12⟩
  have B12 := Lib.hid (below_then B11.out b12)
  clear b12
  rw [samesG_yes rfl]
  go_wp2_with fail
  go_ret
  exact ⟨rfl, B12.out⟩
end Go.Proofs.Ytldojkhnlpbkeaa
