/- The law over NamesIn. -/
import Derived.Test.YtldojkhnlpbkeaaNamesImpl
import Derived.Test.YtldojkhnlpbkeaaStmtEq
namespace Go.Proofs.Ytldojkhnlpbkeaa
open Go.RowKit
set_option linter.unusedVariables false

set_option maxHeartbeats 1600000 in
theorem law_NamesIn (v : Value) (l : List St) (kind : Int) (w : World) (o : IsStmts AnyB w v l) (hkind : (Lit.int .i64 kind).wf = true) :
    Calls Try.prog 9 #[v, .int .i64 kind] w fun e w' => e = .returned (.bool true) ∧ Below w.heap.size w w' := by
  obtain ⟨A, c, rfl, hl, hc, row⟩ := o
  have RW := Lib.hid row
  clear row hkind
  by_cases h1 : (1048576 : Int) - (totGs l : Int) < 0
  · have C1 := Lib.hid (cut0_neg h1)
    go_enter Try.func9, Try.ntmps9
    go_wp2_with fail
    refine (laws_szStmtS l (fun g _ => laws_szStmt g) A c _ 1048576 RW.out hl hc (by omega) (by omega)).mono ?_
    rintro e w1 ⟨rfl, b1⟩
    rw [C1.out]
    have B1 := Lib.hid b1
    clear b1
    go_wp2_with fail
    go_ret
    exact ⟨rfl, B1.out⟩
  have C1 := Lib.hid (cut0_pos (n := (1048576 : Int) - (totGs l : Int)) (by omega))
  have htot : totGs l ≤ 1048576 := by omega
  have h1' : 0 ≤ (1048576 : Int) - (totGs l : Int) := by omega
  have hsn : snodess l ≤ 1048576 := Nat.le_trans (snodess_tot l) htot
  have hsm : smarkss l ≤ 5242880 := by have := smarkss_tot l; omega
  have hrl := namesR_len kind l
  go_enter Try.func9, Try.ntmps9
  go_wp2_with fail
  refine (laws_szStmtS l (fun g _ => laws_szStmt g) A c _ 1048576 RW.out hl hc (by omega) (by omega)).mono ?_
  rintro e w1 ⟨rfl, b1⟩
  rw [C1.out]
  have H1 := Lib.hid b1
  clear b1
  go_wp2_with fail
  refine (laws_toStmtS l (fun g _ => laws_toStmt g) A c _ (RW.out.belowA H1.out) hl hc htot).mono ?_
  rintro e w2 ⟨A2, c2, rfl, hl2, hc2, row2, b2⟩
  have H2 := Lib.hid (below_then H1.out b2)
  have R2 := Lib.hid row2.any
  clear b2 row2
  go_wp2_with fail
  refine (spec_NamesIn l A2 c2 kind _ R2.out hl2 hc2).mono ?_
  rintro e w3 ⟨v3, rfl, own3⟩
  have O3 := Lib.hid own3
  have H3 := Lib.hid (below_then H2.out own3.2)
  obtain ⟨A3, c3, rfl, _⟩ := own3.slice
  clear own3
  go_wp2_with fail
  refine (laws_toStmtSO l (fun g _ => laws_toStmtO g) A c _ (RW.out.belowA H3.out) hl hc htot).mono ?_
  rintro e w4 ⟨A4, c4, rfl, hl4, hc4, row4, b4⟩
  have T4 := Lib.hid row4
  have D4 := Lib.hid b4
  clear b4 row4
  go_wp2_with fail
  refine (impl_NamesIn l A4 c4 kind _ T4.out.any hl4 hc4 hsn).mono ?_
  rintro e w5 ⟨v5, rfl, own5⟩
  have B45 := Lib.hid own5.2
  have O5 := Lib.hid (own5.base D4.out)
  have I5 : Hid (∀ b, v5.ownBlock = some b → w4.heap.size ≤ b) := Lib.hid (fun b hb => (own5.inB b hb).1)
  have T5 := Lib.hid (T4.out.belowO (fun b hb => hb.2) own5.2)
  have D5 := Lib.hid (below_then D4.out own5.2)
  have Z5 := Lib.hid own5.2.size
  obtain ⟨A5, c5, rfl, _⟩ := own5.slice
  clear own5
  have hd : decide (namesR kind l = namesR kind l) = true := by simp
  go_wp2_with fail
  refine (laws_eqStringS _ _ (namesR kind l) (namesR kind l) _ O5.out.isStrs (O3.out.below D5.out).isStrs).mono ?_
  rintro e w6 ⟨rfl, q6⟩
  have Q6 := Lib.hid q6.below
  clear q6
  have D6 := Lib.hid (below_then D5.out Q6.out)
  have T6 := Lib.hid (T5.out.belowO (fun b hb => by have := hb.2; have := Z5.out; omega) Q6.out)
  have O6 := Lib.hid (O5.out.below Q6.out)
  have Z6 := Lib.hid (Nat.le_trans Z5.out Q6.out.size)
  clear T5 O5 Z5 Q6 D5
  go_wp2_with fail
  refine (laws_toStmtS l (fun g _ => laws_toStmt g) A c _ ((RW.out.belowA H3.out).belowA D6.out) hl hc htot).mono ?_
  rintro e w7 ⟨A7, c7, rfl, hl7, hc7, row7, b7⟩
  have R7 := Lib.hid row7.any
  have B7 := Lib.hid b7
  clear b7 row7
  go_wp2_with fail
  refine (laws_eqStmtS l l (fun g _ => laws_eqStmt g) A4 A7 c4 c7 _ (T6.out.any.belowA B7.out) R7.out hl4 hl7 hc4 hc7).mono ?_
  rintro e w10 ⟨rfl, b10⟩
  have B610 : Below w6.heap.size w6 w10 := below_then B7.out b10
  have T7 := Lib.hid (T6.out.belowO (fun b hb => by have := hb.2; have := Z6.out; omega) B610)
  have D7 := Lib.hid (below_then D6.out B610)
  have O7 := Lib.hid (O6.out.below B610)
  have Z7 := Lib.hid (Nat.le_trans Z6.out B610.size)
  clear b10 B610 T6 O6 Z6 D6 R7 B7
  rw [samesG_yes rfl]
  go_wp2_with fail
  refine (laws_markStmtS l 1 A4 c4 _ (Made w3 w4) T7.out (fun b hb => by have := hb.2; have := Z7.out; omega) hl4 hc4 (by omega) (by omega)).mono ?_
  rintro e w11 ⟨rfl, _, kp11⟩
  have D8 := Lib.hid (D7.out.trans (kp11.below (n := w3.heap.size) D7.out.size (fun b hb h => by have := h.1; omega)))
  have O8 := Lib.hid (O7.out.keepS kp11 (fun b hb h => by have := I5.out b hb; have := h.2; omega) (fun b hb h => by have := h.1; omega))
  clear kp11 T7 D7 O7 Z7
  generalize hk : 1 + smarkss l = kk at *
  clear hk
  have hk0 : decide ((kk : Int) < 0) = false := by simp
  go_wp2_with fail
  refine (laws_eqStringS _ _ (namesR kind l) (namesR kind l) _ O8.out.isStrs (O3.out.below D8.out).isStrs).mono ?_
  rintro e w12 ⟨rfl, q12⟩
  have Q12 := Lib.hid q12.below
  clear q12
  have O12 := Lib.hid (O8.out.below Q12.out)
  clear Q12 D8 O8
  go_wp2_with fail
  refine (laws_markStringS _ (namesR kind l) 1 w3 _ O12.out (by omega) (by omega) (by omega)).mono ?_
  rintro e w13 ⟨rfl, own13⟩
  have O13 := Lib.hid own13
  clear own13 O12
  have hm : (((1 + (namesR kind l).length : Nat) : Int) != ((1 + (namesR kind l).length : Nat) : Int)) = false := by simp
  go_wp2_with fail
  refine (laws_heldStringS _ (namesR kind l).length 1 _ O13.out.isStrs (by omega) (by omega) (by omega)).mono ?_
  rintro e w14 ⟨rfl, b14⟩
  have O14 := Lib.hid (O13.out.below b14)
  clear b14 O13
  go_wp2_with fail
  refine (laws_toStmtS l (fun g _ => laws_toStmt g) A c _ ((RW.out.belowA H3.out).belowA O14.out.2) hl hc htot).mono ?_
  rintro e w15 ⟨A15, c15, rfl, hl15, hc15, row15, b15⟩
  have T15 := Lib.hid row15.any
  have O15 := Lib.hid (O14.out.below b15)
  clear b15 row15 O14
  go_wp2_with fail
  refine (impl_NamesIn l A15 c15 kind _ T15.out hl15 hc15 hsn).mono ?_
  rintro e w16 ⟨v16, rfl, own16⟩
  have O16 := Lib.hid (O15.out.below own16.2)
  have P16 := Lib.hid own16
  obtain ⟨A16, c16, rfl, _⟩ := own16.slice
  clear own16 O15 T15
  go_wp2_with fail
  refine (laws_eqStringS _ _ (namesR kind l) (namesR kind l) _ P16.out.isStrs (O3.out.below O16.out.2).isStrs).mono ?_
  rintro e w17 ⟨rfl, q17⟩
  have O17 := Lib.hid (O16.out.below q17.below)
  clear q17 O16 P16
  go_wp2_with fail
  refine (laws_heldStringS _ (namesR kind l).length 1 _ O17.out.isStrs (by omega) (by omega) (by omega)).mono ?_
  rintro e w18 ⟨rfl, b18⟩
  have D18 := Lib.hid (below_then H3.out (below_then O17.out.2 b18))
  clear b18 O17
  go_wp2_with fail
  go_ret
  exact ⟨rfl, D18.out⟩
end Go.Proofs.Ytldojkhnlpbkeaa
