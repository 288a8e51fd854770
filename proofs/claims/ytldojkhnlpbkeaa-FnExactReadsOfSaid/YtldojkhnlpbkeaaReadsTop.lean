/- The law over ReadsOf. -/
import Derived.Test.YtldojkhnlpbkeaaReadsLaw
namespace Go.Proofs.Ytldojkhnlpbkeaa
open Go.RowKit
set_option linter.unusedVariables false

theorem Box4.keepS {w w' : World} {g : Nat} {x : V4} {S : Nat → Prop} (h : Box4 w g x) (hk : Keep S w w') (hS : S g) : Box4 w' g x := ⟨hk.cellEq hS h.1, hk.cellEq hS h.2.1, hk.cellEq hS h.2.2.1, hk.cellEq hS h.2.2.2⟩
set_option maxHeartbeats 1600000 in
theorem law_ReadsOf (v : Value) (t : Tm) (w : World) (o : IsTerm AnyB w v t) :
    Calls Try.prog 8 #[v] w fun e w' => e = .returned (.bool true) ∧ Below w.heap.size w w' := by
  obtain ⟨k, n, s, A, m, c, rfl, ht⟩ := o
  have HT := Lib.hid ht
  clear ht
  by_cases h1 : (1048576 : Int) - (totT t : Int) < 0
  · have C1 := Lib.hid (cut0_neg h1)
    go_enter Try.func8, Try.ntmps8
    go_wp2_with fail
    refine (laws_szTerm t k n s A m c _ 1048576 ?_ (by omega) (by omega)).mono ?_
    · exact HT.out.belowA (by repeat' (first | exact Below.refl _ _ | exact Nat.le_refl _ | (refine Below.alloc ?_ ?_ _) | (refine Below.setCell ?_ ?_ _) | (refine Below.drew ?_) | (refine below_drewN ?_ _) | assumption | (simp; done) | (simp; omega)))
    rintro e w1 ⟨rfl, b1⟩
    have B1 : Below w.heap.size w w1 := Below.trans (by repeat' (first | exact Below.refl _ _ | exact Nat.le_refl _ | (refine Below.alloc ?_ ?_ _) | (refine Below.setCell ?_ ?_ _) | (refine Below.drew ?_) | (refine below_drewN ?_ _) | assumption | (simp; done) | (simp; omega))) (b1.mono (by simp))
    have H1 := Lib.hid B1
    clear b1 B1
    rw [C1.out]
    go_wp2_with fail
    go_ret
    exact ⟨rfl, H1.out⟩
  have C1 := Lib.hid (cut0_pos (n := (1048576 : Int) - (totT t : Int)) (by omega))
  have htot : totT t ≤ 1048576 := by omega
  have h1' : 0 ≤ (1048576 : Int) - (totT t : Int) := by omega
  have hnod : nodes t ≤ 1048577 := by have := nodes_tot t; omega
  have hrl := readsR_len t
  have hnk : nodess t.kids ≤ nodes t := by obtain ⟨_, _, _, kids⟩ := t; rw [nodes]; show nodess kids ≤ 1 + nodess kids; omega
  go_enter Try.func8, Try.ntmps8
  go_wp2_with fail
  refine (laws_szTerm t k n s A m c _ 1048576 ?_ (by omega) (by omega)).mono ?_
  · exact HT.out.belowA (by repeat' (first | exact Below.refl _ _ | exact Nat.le_refl _ | (refine Below.alloc ?_ ?_ _) | (refine Below.setCell ?_ ?_ _) | (refine Below.drew ?_) | (refine below_drewN ?_ _) | assumption | (simp; done) | (simp; omega)))
  rintro e w1 ⟨rfl, b1⟩
  have H1 : Hid (Below w.heap.size w w1) := Lib.hid (Below.trans (by repeat' (first | exact Below.refl _ _ | exact Nat.le_refl _ | (refine Below.alloc ?_ ?_ _) | (refine Below.setCell ?_ ?_ _) | (refine Below.drew ?_) | (refine below_drewN ?_ _) | assumption | (simp; done) | (simp; omega))) (b1.mono (by simp)))
  have BX1 : Hid (Box4 w1 w.heap.size (vt k n s A m c)) := Lib.hid (Box4.below (Box4.lit rfl) b1)
  clear b1
  obtain ⟨p0, p1, p2, p3⟩ := BX1.out
  simp only [vt] at p0 p1 p2 p3
  rw [C1.out]
  go_wp2_with fail
  refine (laws_toTerm t k n s A m c _ (HT.out.belowA H1.out) htot).mono ?_
  rintro e w2 ⟨k2, n2, s2, A2, m2, c2, rfl, t2, b2⟩
  have T2 := Lib.hid t2.any
  have H2 := Lib.hid (below_then H1.out b2)
  have BX2 := Lib.hid (BX1.out.below b2)
  clear b2 t2 p0 p1 p2 p3 BX1 H1
  go_wp2_with fail
  refine (spec_ReadsOf t k2 n2 s2 A2 m2 c2 _ T2.out (by omega)).mono ?_
  rintro e w3 ⟨v3, rfl, own3⟩
  have O3 := Lib.hid own3
  have H3 := Lib.hid (below_then H2.out own3.2)
  have BX3 := Lib.hid (BX2.out.below own3.2)
  obtain ⟨A3, c3, rfl, _⟩ := own3.slice
  clear own3 BX2 T2
  obtain ⟨p0, p1, p2, p3⟩ := BX3.out
  simp only [vt] at p0 p1 p2 p3
  go_wp2_with fail
  refine (laws_toTermO t k n s A m c _ (HT.out.belowA H3.out) htot).mono ?_
  rintro e w4 ⟨k4, n4, s4, A4, m4, c4, rfl, t4, b4⟩
  have T4 := Lib.hid t4
  have D4 := Lib.hid b4
  clear b4 t4 p0 p1 p2 p3
  go_wp2_with fail
  refine (impl_ReadsOf t k4 n4 s4 A4 m4 c4 _ (T4.out.any.belowA (by repeat' (first | exact Below.refl _ _ | exact Nat.le_refl _ | (refine Below.alloc ?_ ?_ _) | (refine Below.setCell ?_ ?_ _) | (refine Below.drew ?_) | (refine below_drewN ?_ _) | assumption | (simp; done) | (simp; omega)))) (by omega)).mono ?_
  rintro e w5 ⟨v5, rfl, own5⟩
  have B45 : Below w4.heap.size w4 w5 := Below.trans (Below.alloc (Below.refl _ _) (Nat.le_refl _) _) (own5.2.mono (by simp))
  have D34 : Below w3.heap.size w3 (w4.alloc (.cells #[.int .i64 k4, .int .i64 n4, .string s4, .slice A4 m4 c4] 41)) := Below.alloc D4.out D4.out.size _
  have O5 := Lib.hid (own5.base D34)
  have I5 : Hid (∀ b, v5.ownBlock = some b → w4.heap.size + 1 ≤ b) := Lib.hid (fun b hb => by have := (own5.inB b hb).1; simpa using this)
  have BY5 : Hid (Box4 w5 w4.heap.size (vt k4 n4 s4 A4 m4 c4)) := Lib.hid (Box4.below (Box4.lit rfl) own5.2)
  have T5 := Lib.hid (T4.out.belowO (fun b hb => hb.2) B45)
  have D5 := Lib.hid (below_then D4.out B45)
  have Z5 : Hid (w4.heap.size < w5.heap.size) := Lib.hid (cell_lt BY5.out.1)
  obtain ⟨A5, c5, rfl, _⟩ := own5.slice
  clear own5 T4 B45 D34
  have hd : decide (readsR t = readsR t) = true := by simp
  go_wp2_with fail
  refine (laws_eqStringS _ _ (readsR t) (readsR t) _ O5.out.isStrs (O3.out.below D5.out).isStrs).mono ?_
  rintro e w6 ⟨rfl, q6⟩
  have Q6 := Lib.hid q6.below
  clear q6
  have BY6 := Lib.hid (BY5.out.below Q6.out)
  have D6 := Lib.hid (below_then D5.out Q6.out)
  have T6 := Lib.hid (T5.out.belowO (fun b hb => by have := hb.2; have := Z5.out; omega) Q6.out)
  have O6 := Lib.hid (O5.out.below Q6.out)
  have Z6 := Lib.hid (Nat.lt_of_lt_of_le Z5.out Q6.out.size)
  clear BY5 T5 O5 Z5 Q6 D5
  have st := sameB_yes (rfl : t = t)
  have TT6 := Lib.hid T6.out.any
  obtain ⟨p0, p1, p2, p3⟩ := BX3.out.below D6.out
  obtain ⟨r0, r1, r2, r3⟩ := BY6.out
  simp only [vt] at p0 p1 p2 p3 r0 r1 r2 r3
  go_wp2_with fail
  go_region_held3 (fun w' => w'.cell? ⟨w.heap.size, 0, none⟩ = some (.int .i64 k) ∧ w'.cell? ⟨w.heap.size, 1, none⟩ = some (.int .i64 n) ∧ w'.cell? ⟨w.heap.size, 2, none⟩ = some (.string s) ∧ w'.cell? ⟨w.heap.size, 3, none⟩ = some (.slice A m c) ∧ w'.cell? ⟨w4.heap.size, 0, none⟩ = some (.int .i64 k4) ∧ w'.cell? ⟨w4.heap.size, 1, none⟩ = some (.int .i64 n4) ∧ w'.cell? ⟨w4.heap.size, 2, none⟩ = some (.string s4) ∧ w'.cell? ⟨w4.heap.size, 3, none⟩ = some (.slice A4 m4 c4))
    (first | go_keep | (go_split_ands; refine ⟨?_, ?_, ?_, ?_, ?_, ?_, ?_, ?_⟩ <;> first | exact cell_keep b10 (by assumption) | exact cell_keep b9 (by assumption)))
    (first
      | (go_at_call 23; (with_reducible refine (laws_toTerm t k n s A m c _ (by exact ((HT.out.belowA H3.out).belowA D6.out).drew) htot).mono ?_); rintro e w9 ⟨k9, n9, s9, A9, m9, c9, rfl, t9, b9⟩)
      | (go_at_call 25; refine (laws_eqTerm t t k4 n4 s4 A4 m4 c4 k9 n9 s9 A9 m9 c9 _ (by exact TT6.out.drew.belowA b9) (by exact t9.any)).mono ?_; rintro e w10 ⟨rfl, b10⟩))
  have B610 : Below w6.heap.size w6 w10 := below_then (Below.trans (Below.refl _ _).drew b9) b10
  have BY7 := Lib.hid (BY6.out.below B610)
  have T7 := Lib.hid (T6.out.belowO (fun b hb => by have := hb.2; have := Z6.out; omega) B610)
  have D7 := Lib.hid (below_then D6.out B610)
  have O7 := Lib.hid (O6.out.below B610)
  have Z7 := Lib.hid (Nat.lt_of_lt_of_le Z6.out B610.size)
  clear b9 b10 B610 t9 BY6 T6 O6 Z6 D6 TT6 p0 p1 p2 p3 r0 r1 r2 r3
  obtain ⟨r0, r1, r2, r3⟩ := BY7.out
  simp only [vt] at r0 r1 r2 r3
  go_wp2_with fail
  refine (laws_markTerm t k4 n4 s4 A4 m4 c4 1 _ (Made w3 w4) T7.out (fun b hb => by have := hb.2; have := Z7.out; omega) (by omega) (by omega)).mono ?_
  rintro e w11 ⟨rfl, _, kp11⟩
  have D8 := Lib.hid (D7.out.trans (kp11.below (n := w3.heap.size) D7.out.size (fun b hb h => by have := h.1; omega)))
  have O8 := Lib.hid (O7.out.keepS kp11 (fun b hb h => by have := I5.out b hb; have := h.2; omega) (fun b hb h => by have := h.1; omega))
  clear kp11 r0 r1 r2 r3 T7 BY7 D7 O7 Z7
  generalize hk : 1 + 3 * nodess t.kids = kk at *
  clear hk
  have hk0 : decide ((kk : Int) < 0) = false := by simp
  go_wp2_with fail
  refine (laws_eqStringS _ _ (readsR t) (readsR t) _ O8.out.isStrs (O3.out.below D8.out).isStrs).mono ?_
  rintro e w12 ⟨rfl, q12⟩
  have Q12 := Lib.hid q12.below
  clear q12
  have D12 := Lib.hid (below_then D8.out Q12.out)
  have O12 := Lib.hid (O8.out.below Q12.out)
  clear Q12 D8 O8
  go_wp2_with fail
  refine (laws_markStringS _ (readsR t) 1 w3 _ O12.out (by omega) (by omega) (by omega)).mono ?_
  rintro e w13 ⟨rfl, own13⟩
  have O13 := Lib.hid own13
  clear own13 O12 D12
  have hm : (((1 + (readsR t).length : Nat) : Int) != ((1 + (readsR t).length : Nat) : Int)) = false := by simp
  go_wp2_with fail
  refine (laws_heldStringS _ (readsR t).length 1 _ O13.out.isStrs (by omega) (by omega) (by omega)).mono ?_
  rintro e w14 ⟨rfl, b14⟩
  have O14 := Lib.hid (O13.out.below b14)
  clear b14 O13
  obtain ⟨p0, p1, p2, p3⟩ := BX3.out.below O14.out.2
  simp only [vt] at p0 p1 p2 p3
  go_wp2_with fail
  refine (laws_toTerm t k n s A m c _ ((HT.out.belowA H3.out).belowA O14.out.2) htot).mono ?_
  rintro e w15 ⟨k15, n15, s15, A15, m15, c15, rfl, t15, b15⟩
  have T15 := Lib.hid t15.any
  have O15 := Lib.hid (O14.out.below b15)
  clear b15 t15 p0 p1 p2 p3 O14
  go_wp2_with fail
  refine (impl_ReadsOf t k15 n15 s15 A15 m15 c15 _ T15.out (by omega)).mono ?_
  rintro e w16 ⟨v16, rfl, own16⟩
  have O16 := Lib.hid (O15.out.below own16.2)
  have P16 := Lib.hid own16
  obtain ⟨A16, c16, rfl, _⟩ := own16.slice
  clear own16 O15 T15
  go_wp2_with fail
  refine (laws_eqStringS _ _ (readsR t) (readsR t) _ P16.out.isStrs (O3.out.below O16.out.2).isStrs).mono ?_
  rintro e w17 ⟨rfl, q17⟩
  have O17 := Lib.hid (O16.out.below q17.below)
  clear q17 O16 P16
  go_wp2_with fail
  refine (laws_heldStringS _ (readsR t).length 1 _ O17.out.isStrs (by omega) (by omega) (by omega)).mono ?_
  rintro e w18 ⟨rfl, b18⟩
  have D18 := Lib.hid (below_then H3.out (below_then O17.out.2 b18))
  clear b18 O17
  go_wp2_with fail
  go_ret
  exact ⟨rfl, D18.out⟩
end Go.Proofs.Ytldojkhnlpbkeaa
