/- The law over UnusedIn. (Printed by wip/gen_proglist.py.) -/
import Derived.Test.YtkipkincggajcaaUnusedSpec
import Derived.Test.YtkipkincggajcaaPgMark
namespace Go.Proofs.Ytkipkincggajcaa
open Go.RowKit
set_option linter.unusedVariables false

set_option maxHeartbeats 3200000 in
theorem law_UnusedIn (v : Value) (p : Pg) (w : World) (o : IsProg w v p) :
    Calls Try.prog 12 #[v] w fun e w' => e = .returned (.bool true) ∧ Below w.heap.size w w' := by
  obtain ⟨x, rfl, hp⟩ := o
  have HP := Lib.hid hp
  clear hp
  by_cases h1 : (1048576 : Int) - (totPg p : Int) < 0
  · have C1 := Lib.hid (cut0_neg h1)
    unfold V3.val
    go_enter Try.func12, Try.ntmps12
    go_wp2_with fail
    refine (laws_szProg p x _ 1048576 (HP.out.belowA (by repeat' (first | exact Below.refl _ _ | exact Nat.le_refl _ | (refine Below.alloc ?_ ?_ _) | (refine Below.setCell ?_ ?_ _) | (refine Below.drew ?_) | (refine below_drewN ?_ _) | assumption | (simp; done) | (simp; omega)))) (by omega) (by omega)).mono ?_
    rintro e w1 ⟨rfl, b1⟩
    have B1 : Hid (Below w.heap.size w w1) := Lib.hid (Below.trans (by repeat' (first | exact Below.refl _ _ | exact Nat.le_refl _ | (refine Below.alloc ?_ ?_ _) | (refine Below.setCell ?_ ?_ _) | (refine Below.drew ?_) | (refine below_drewN ?_ _) | assumption | (simp; done) | (simp; omega))) (b1.mono (by simp)))
    rw [C1.out]
    clear b1
    go_wp2_with fail
    go_ret
    exact ⟨rfl, B1.out⟩
  have C1 := Lib.hid (cut0_pos (n := (1048576 : Int) - (totPg p : Int)) (by omega))
  have htot : totPg p ≤ 1048576 := by omega
  have h1' : 0 ≤ (1048576 : Int) - (totPg p : Int) := by omega
  have hrl : (unuR p).length ≤ 10000000 := unuR_len htot
  have hmz := markZ_tot p
  unfold V3.val
  go_enter Try.func12, Try.ntmps12
  go_wp2_with fail
  refine (laws_szProg p x _ 1048576 (HP.out.belowA (by repeat' (first | exact Below.refl _ _ | exact Nat.le_refl _ | (refine Below.alloc ?_ ?_ _) | (refine Below.setCell ?_ ?_ _) | (refine Below.drew ?_) | (refine below_drewN ?_ _) | assumption | (simp; done) | (simp; omega)))) (by omega) (by omega)).mono ?_
  rintro e w1 ⟨rfl, b1⟩
  have H1 : Hid (Below w.heap.size w w1) := Lib.hid (Below.trans (by repeat' (first | exact Below.refl _ _ | exact Nat.le_refl _ | (refine Below.alloc ?_ ?_ _) | (refine Below.setCell ?_ ?_ _) | (refine Below.drew ?_) | (refine below_drewN ?_ _) | assumption | (simp; done) | (simp; omega))) (b1.mono (by simp)))
  have BX1 : Hid (BoxB w1 w.heap.size [.slice x.gA p.globals.length x.gc, .slice x.lA p.locks.length x.lc, .slice x.pA p.procs.length x.pc]) := Lib.hid (BoxB.below (BoxB.lit rfl) b1)
  rw [C1.out]
  clear b1
  have p0 := BX1.out 0 _ rfl
  have p1 := BX1.out 1 _ rfl
  have p2 := BX1.out 2 _ rfl
  go_wp2_with fail
  refine (laws_toProg p x _ (HP.out.belowA H1.out) htot).mono ?_
  rintro e w2 ⟨x2, rfl, o2, b2⟩
  have T2 := Lib.hid o2.any
  have H2 := Lib.hid (below_then H1.out b2)
  have BX2 := Lib.hid (BX1.out.below b2)
  clear b2 o2 p0 p1 p2 BX1 H1
  go_wp2_with fail
  refine (spec_UnusedIn p x2 _ T2.out htot).mono ?_
  rintro e w3 ⟨v3, rfl, own3⟩
  have O3 := Lib.hid own3
  have H3 := Lib.hid (below_then H2.out own3.2)
  have BX3 := Lib.hid (BX2.out.below own3.2)
  obtain ⟨A3, c3, rfl, _⟩ := own3.slice
  clear own3 BX2 H2 T2
  have p0 := BX3.out 0 _ rfl
  have p1 := BX3.out 1 _ rfl
  have p2 := BX3.out 2 _ rfl
  go_wp2_with fail
  refine (laws_toProg p x _ (HP.out.belowA H3.out) htot).mono ?_
  rintro e w4 ⟨x4, rfl, o4, b4⟩
  have T4 := Lib.hid o4
  have D4 := Lib.hid b4
  have BX4 := Lib.hid (BX3.out.below b4)
  clear b4 o4 p0 p1 p2
  unfold V3.val
  go_wp2_with fail
  refine (impl_UnusedIn p x4 _ (T4.out.any.belowA (by repeat' (first | exact Below.refl _ _ | exact Nat.le_refl _ | (refine Below.alloc ?_ ?_ _) | (refine Below.setCell ?_ ?_ _) | (refine Below.drew ?_) | (refine below_drewN ?_ _) | assumption | (simp; done) | (simp; omega)))) htot).mono ?_
  rintro e w5 ⟨v5, rfl, own5⟩
  have b45 := own5.2
  have B45 : Hid (Below w4.heap.size w4 w5) := Lib.hid (Below.trans (Below.alloc (Below.refl _ _) (Nat.le_refl _) _) (b45.mono (by simp)))
  have BY5 : Hid (BoxB w5 w4.heap.size [.slice x4.gA p.globals.length x4.gc, .slice x4.lA p.locks.length x4.lc, .slice x4.pA p.procs.length x4.pc]) := Lib.hid (BoxB.below (BoxB.lit rfl) b45)
  have hz5 : w4.heap.size < w5.heap.size := by have := b45.size; simp at this; omega
  have I5 : Hid (∀ b, v5.ownBlock = some b → w4.heap.size ≤ b) := Lib.hid (fun b hb => by have := (own5.inB b hb).1; simp at this; omega)
  have D5 := Lib.hid (below_then D4.out B45.out)
  have O5 : Hid (OwnStrs w3 w5 v5 (unuR p)) := Lib.hid (own5.base (below_then D4.out (Below.alloc (Below.refl _ _) (Nat.le_refl _) _)))
  have T5 := Lib.hid (T4.out.belowO (fun b hb => hb.2) B45.out)
  obtain ⟨A5, c5, rfl, _⟩ := own5.slice
  clear own5 b45 T4 BX4
  have hd : decide (unuR p = unuR p) = true := by simp
  have BX5 := Lib.hid (BX3.out.below D5.out)
  go_wp2_with fail
  refine (laws_eqStringS _ _ (unuR p) (unuR p) _ O5.out.isStrs (O3.out.below D5.out).isStrs).mono ?_
  rintro e w6 ⟨rfl, q6⟩
  have Q6 := Lib.hid q6.below
  clear q6
  have D6 := Lib.hid (below_then D5.out Q6.out)
  have T6 := Lib.hid (T5.out.belowO (fun b hb => by have := hb.2; omega) Q6.out)
  have O6 := Lib.hid (O5.out.below Q6.out)
  have BX6 := Lib.hid (BX5.out.below Q6.out)
  have BY6 := Lib.hid (BY5.out.below Q6.out)
  have hz6 : w4.heap.size < w6.heap.size := by have := Q6.out.size; omega
  have P6 := Lib.hid (HP.out.belowA (below_then H3.out D6.out))
  have st : decB (p = p) = true := decB_yes rfl
  clear T5 O5 D5 BX5 BY5 Q6 B45
  have p0 := BX6.out 0 _ rfl
  have p1 := BX6.out 1 _ rfl
  have p2 := BX6.out 2 _ rfl
  have r0 := BY6.out 0 _ rfl
  have r1 := BY6.out 1 _ rfl
  have r2 := BY6.out 2 _ rfl
  go_wp2_with fail
  go_region_held3 (fun w' => w'.cell? ⟨w.heap.size, 0, none⟩ = some (.slice x.gA p.globals.length x.gc) ∧ w'.cell? ⟨w.heap.size, 1, none⟩ = some (.slice x.lA p.locks.length x.lc) ∧ w'.cell? ⟨w.heap.size, 2, none⟩ = some (.slice x.pA p.procs.length x.pc) ∧ w'.cell? ⟨w4.heap.size, 0, none⟩ = some (.slice x4.gA p.globals.length x4.gc) ∧ w'.cell? ⟨w4.heap.size, 1, none⟩ = some (.slice x4.lA p.locks.length x4.lc) ∧ w'.cell? ⟨w4.heap.size, 2, none⟩ = some (.slice x4.pA p.procs.length x4.pc))
    (first | go_keep | (go_split_ands; refine ⟨?_, ?_, ?_, ?_, ?_, ?_⟩ <;> first | exact cell_keep b10 (by assumption) | exact cell_keep b9 (by assumption)))
    (first
      | (go_at_call 33; (refine (laws_toProg p x _ (by exact P6.out.drew) htot).mono ?_); rintro e w9 ⟨x9, rfl, o9, b9⟩; unfold V3.val)
      | (go_at_call 35; refine (laws_eqProg p p x4 x9 _ (by exact T6.out.any.drew.belowA b9) (by exact o9.any)).mono ?_; rintro e w10 ⟨rfl, b10⟩))
  have B610 : Below w6.heap.size w6 w10 := below_then (Below.trans (Below.refl _ _).drew b9) b10
  have T7 := Lib.hid (T6.out.belowO (fun b hb => by have := hb.2; omega) B610)
  have D7 := Lib.hid (below_then D6.out B610)
  have O7 := Lib.hid (O6.out.below B610)
  have BY7 := Lib.hid (BY6.out.below B610)
  have hz7 : w4.heap.size < w10.heap.size := by have := B610.size; omega
  clear b9 b10 B610 o9 T6 O6 D6 BX6 BY6 P6 p0 p1 p2 r0 r1 r2
  have r0 := BY7.out 0 _ rfl
  have r1 := BY7.out 1 _ rfl
  have r2 := BY7.out 2 _ rfl
  have hz4 : w3.heap.size ≤ w4.heap.size := D4.out.size
  go_wp2_with fail
  refine (laws_markProg p x4 1 _ (Made w3 w4) T7.out (fun b hb => by have := hb.2; omega) (by omega) (by omega)).mono ?_
  rintro e w11 ⟨rfl, kp11⟩
  have D8 := Lib.hid (D7.out.trans (kp11.below (n := w3.heap.size) D7.out.size (fun b hb h => by have := h.1; omega)))
  have O8 := Lib.hid (O7.out.keepS kp11 (fun b hb h => by have := I5.out b hb; have := h.2; omega) (fun b hb h => by have := h.1; omega))
  clear kp11 T7 D7 O7 r0 r1 r2 BY7
  generalize hk : 1 + markZ p = kk at *
  clear hk
  have hk0 : decide ((kk : Int) < 0) = false := by simp
  go_wp2_with fail
  refine (laws_eqStringS _ _ (unuR p) (unuR p) _ O8.out.isStrs (O3.out.below D8.out).isStrs).mono ?_
  rintro e w12 ⟨rfl, q12⟩
  have Q12 := Lib.hid q12.below
  clear q12
  have O12 := Lib.hid (O8.out.below Q12.out)
  clear Q12 D8 O8
  go_wp2_with fail
  refine (laws_markStringS _ (unuR p) 1 w3 _ O12.out (by omega) (by omega) (by omega)).mono ?_
  rintro e w13 ⟨rfl, own13⟩
  have O13 := Lib.hid own13
  clear own13 O12
  have hm : (((1 + (unuR p).length : Nat) : Int) != ((1 + (unuR p).length : Nat) : Int)) = false := by simp
  go_wp2_with fail
  refine (laws_heldStringS _ (unuR p).length 1 _ O13.out.isStrs (by omega) (by omega) (by omega)).mono ?_
  rintro e w14 ⟨rfl, b14⟩
  have O14 := Lib.hid (O13.out.below b14)
  clear b14 O13
  have BX14 := Lib.hid (BX3.out.below O14.out.2)
  have p0 := BX14.out 0 _ rfl
  have p1 := BX14.out 1 _ rfl
  have p2 := BX14.out 2 _ rfl
  go_wp2_with fail
  refine (laws_toProg p x _ (HP.out.belowA (below_then H3.out O14.out.2)) htot).mono ?_
  rintro e w15 ⟨x15, rfl, o15, b15⟩
  have T15 := Lib.hid o15.any
  have O15 := Lib.hid (O14.out.below b15)
  clear b15 o15 O14 BX14 p0 p1 p2
  go_wp2_with fail
  refine (impl_UnusedIn p x15 _ T15.out htot).mono ?_
  rintro e w16 ⟨v16, rfl, own16⟩
  have O16 := Lib.hid (O15.out.below own16.2)
  have P16 := Lib.hid own16
  obtain ⟨A16, c16, rfl, _⟩ := own16.slice
  clear own16 O15 T15
  go_wp2_with fail
  refine (laws_eqStringS _ _ (unuR p) (unuR p) _ P16.out.isStrs (O3.out.below O16.out.2).isStrs).mono ?_
  rintro e w17 ⟨rfl, q17⟩
  have O17 := Lib.hid (O16.out.below q17.below)
  clear q17 O16 P16
  go_wp2_with fail
  refine (laws_heldStringS _ (unuR p).length 1 _ O17.out.isStrs (by omega) (by omega) (by omega)).mono ?_
  rintro e w18 ⟨rfl, b18⟩
  have D18 := Lib.hid (below_then H3.out (below_then O17.out.2 b18))
  clear b18 O17
  go_wp2_with fail
  go_ret
  exact ⟨rfl, D18.out⟩
end Go.Proofs.Ytkipkincggajcaa
