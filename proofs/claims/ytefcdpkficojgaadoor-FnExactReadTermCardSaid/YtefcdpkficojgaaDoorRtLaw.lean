/- The law over ReadTerm. -/
import Derived.Test.YtefcdpkficojgaaDoorRsTerm3
import Derived.Test.YtefcdpkficojgaaDoorRsTop
import Derived.Test.YtefcdpkficojgaaDoorRdNodes
import Derived.Test.YtefcdpkficojgaaDoorTermHeld
namespace Go.Proofs.YtefcdpkficojgaaDoor
open Go.RowKit
set_option linter.unusedVariables false

/-- the two cells of a fault -/
def Box2 (w : World) (g : Nat) (a c : Int) : Prop := w.cell? ⟨g, 0, none⟩ = some (.int .i64 a) ∧ w.cell? ⟨g, 1, none⟩ = some (.int .i64 c)
theorem Box2.below {w w' : World} {g : Nat} {a c : Int} (h : Box2 w g a c) (hb : Below w.heap.size w w') : Box2 w' g a c := ⟨cell_keep hb h.1, cell_keep hb h.2⟩
theorem Box2.keepS {w w' : World} {g : Nat} {a c : Int} {S : Nat → Prop} (h : Box2 w g a c) (hk : Keep S w w') (hS : S g) : Box2 w' g a c := ⟨hk.cellEq hS h.1, hk.cellEq hS h.2⟩
theorem Box4.keepQ {w w' : World} {g : Nat} {x : V4} {S : Nat → Prop} (h : Box4 w g x) (hk : Keep S w w') (hS : S g) : Box4 w' g x := ⟨hk.cellEq hS h.1, hk.cellEq hS h.2.1, hk.cellEq hS h.2.2.1, hk.cellEq hS h.2.2.2⟩
/-- two boxes made one behind the other: a term's and a fault's -/
theorem two_boxes (w : World) (k n : Int) (s : ByteArray) (A : Option Addr) (m c : Nat) (f1 f2 : Int) (e e' : TypeId) :
    Box4 ((w.alloc (.cells #[.int .i64 k, .int .i64 n, .string s, .slice A m c] e)).alloc (.cells #[.int .i64 f1, .int .i64 f2] e')) w.heap.size (vt k n s A m c) ∧ Box2 ((w.alloc (.cells #[.int .i64 k, .int .i64 n, .string s, .slice A m c] e)).alloc (.cells #[.int .i64 f1, .int .i64 f2] e')) (w.heap.size + 1) f1 f2 ∧
    Below w.heap.size w ((w.alloc (.cells #[.int .i64 k, .int .i64 n, .string s, .slice A m c] e)).alloc (.cells #[.int .i64 f1, .int .i64 f2] e')) := by
  have h0 : ((w.alloc (.cells #[.int .i64 k, .int .i64 n, .string s, .slice A m c] e)).alloc (.cells #[.int .i64 f1, .int .i64 f2] e')).heap[w.heap.size]? = some (.cells #[.int .i64 k, .int .i64 n, .string s, .slice A m c] e (0, 0)) := (heap_alloc_lt (by simp)).trans (heap_alloc_new _ _)
  have h1 := heap_alloc_new (w.alloc (.cells #[.int .i64 k, .int .i64 n, .string s, .slice A m c] e)) (.cells #[.int .i64 f1, .int .i64 f2] e')
  simp only [World.size_alloc] at h1
  obtain ⟨a0, a1, a2, a3⟩ := term_cells h0
  refine ⟨⟨a0, a1, a2, a3⟩, ⟨?_, ?_⟩, Below.alloc (Below.alloc (Below.refl _ _) (Nat.le_refl _) _) (by simp) _⟩
  · rw [Lib.cell_of_heap h1]; rfl
  · rw [Lib.cell_of_heap h1]; rfl
theorem spec_ReadTerm (s : ByteArray) (W0 : World) (hs : s.size ≤ 1048576) :
    Calls Tryd.prog 11 #[.string s] W0 fun e w' => ∃ k m t A l c, e = .returned (.tuple #[.agg #[.int .i64 k, .int .i64 m, .string t, .slice A l c], .agg #[.int .i64 (readT s).2.1, .int .i64 (readT s).2.2]]) ∧ TmO w' (Made W0 w') [.int .i64 k, .int .i64 m, .string t, .slice A l c] (readT s).1 ∧ Below W0.heap.size W0 w' :=
  spec_ReadTerm_of (rs_term_all 6 (Nat.le_refl _)) s W0 hs
set_option maxHeartbeats 3200000 in
set_option maxRecDepth 100000 in
theorem law_ReadTerm (s : ByteArray) (w : World) (hs : s.size ≤ maxLen) (TB0 : TabW w) :
    Calls Tryd.prog 3 #[.string s] w fun e w' => e = .returned (.bool true) ∧ Below w.heap.size w w' := by
  have TB := Lib.hid TB0
  clear TB0
  by_cases h1 : (1048576 : Int) < (s.size : Int)
  · go_enter Tryd.func3, Tryd.ntmps3
    go_wp2_with fail
    go_ret
    exact ⟨rfl, Below.refl _ _⟩
  have hs2 : s.size ≤ 1048576 := by omega
  have hnd := readT_nodes s
  obtain ⟨R, hR⟩ : ∃ R, readT s = R := ⟨_, rfl⟩
  obtain ⟨t, f1, f2⟩ := R
  have HR := Lib.hid hR
  rw [hR] at hnd
  simp only at hnd
  have hkd : nodess t.kids ≤ nodes t := by obtain ⟨_, _, _, kids⟩ := t; rw [nodes]; show nodess kids ≤ 1 + nodess kids; omega
  clear hR
  have st := sameB_yes (rfl : t = t)
  go_enter Tryd.func3, Tryd.ntmps3
  go_wp2_with fail
  have c1 := spec_ReadTerm s w hs2
  refine c1.mono ?_
  clear c1
  rw [HR.out]
  rintro e w1 ⟨k1, m1, s1, A1, l1, c1, rfl, t1, b1⟩
  have B1 := Lib.hid b1
  have T1 := Lib.hid t1
  obtain ⟨x1, y1, z1⟩ := two_boxes w1 k1 m1 s1 A1 l1 c1 f1 f2 24 26
  have X1 := Lib.hid x1
  have Y1 := Lib.hid y1
  have BA : Hid (Below w.heap.size w ((w1.alloc (.cells #[.int .i64 k1, .int .i64 m1, .string s1, .slice A1 l1 c1] 24)).alloc (.cells #[.int .i64 f1, .int .i64 f2] 26))) := Lib.hid (below_then b1 z1)
  have TA := Lib.hid (T1.out.belowO (fun b hb => hb.2) z1)
  clear b1 t1 x1 y1 z1
  go_wp2_with fail
  obtain ⟨WA, hWA⟩ : ∃ W, (w1.alloc (.cells #[.int .i64 k1, .int .i64 m1, .string s1, .slice A1 l1 c1] 24)).alloc (.cells #[.int .i64 f1, .int .i64 f2] 26) = W := ⟨_, rfl⟩
  have hz1 : w1.heap.size + 2 = WA.heap.size := by rw [← hWA]; simp
  rw [hWA] at X1 Y1 BA TA ⊢
  clear hWA
  generalize hg1 : w1.heap.size = g1 at *
  have c2 := impl_ReadTerm s WA (TB.out.below BA.out) hs2
  refine c2.mono ?_
  clear c2
  rw [HR.out]
  rintro e w2 ⟨k2, m2, s2, A2, l2, c2, rfl, t2, b2⟩
  have T2 := Lib.hid t2
  obtain ⟨x2, y2, z2⟩ := two_boxes w2 k2 m2 s2 A2 l2 c2 f1 f2 24 26
  have X2 := Lib.hid x2
  have Y2 := Lib.hid y2
  have BB : Hid (Below WA.heap.size WA ((w2.alloc (.cells #[.int .i64 k2, .int .i64 m2, .string s2, .slice A2 l2 c2] 24)).alloc (.cells #[.int .i64 f1, .int .i64 f2] 26))) := Lib.hid (below_then b2 z2)
  have TBB := Lib.hid (T2.out.belowO (fun b hb => hb.2) z2)
  have hz2 := b2.size
  clear b2 t2 x2 y2 z2
  go_upto_region 5 with fail
  obtain ⟨WB, hWB⟩ : ∃ W, (w2.alloc (.cells #[.int .i64 k2, .int .i64 m2, .string s2, .slice A2 l2 c2] 24)).alloc (.cells #[.int .i64 f1, .int .i64 f2] 26) = W := ⟨_, rfl⟩
  have hzb : w2.heap.size + 2 = WB.heap.size := by rw [← hWB]; simp
  rw [hWB] at X2 Y2 BB TBB ⊢
  clear hWB
  have FF : Hid (∀ b, Made WA w2 b → WA.heap.size ≤ b ∧ b < w2.heap.size) := Lib.hid fun b hb => hb
  have TBB2 : Hid (TmO WB (fun b => WA.heap.size ≤ b ∧ b < w2.heap.size) [.int .i64 k2, .int .i64 m2, .string s2, .slice A2 l2 c2] t) := Lib.hid (TBB.out.sub FF.out)
  clear TBB FF T2
  generalize hg2 : w2.heap.size = g2 at *
  have XB1 := Lib.hid (X1.out.below BB.out)
  have YB1 := Lib.hid (Y1.out.below BB.out)
  have TB1 : Hid (TmIs AnyB WB [.int .i64 k1, .int .i64 m1, .string s1, .slice A1 l1 c1] t) := Lib.hid (TA.out.any.belowA BB.out)
  obtain ⟨p0, p1, p2, p3⟩ := XB1.out
  obtain ⟨p4, p5⟩ := YB1.out
  obtain ⟨r0, r1, r2, r3⟩ := X2.out
  obtain ⟨r4, r5⟩ := Y2.out
  simp only [vt] at p0 p1 p2 p3 r0 r1 r2 r3
  go_wp2_with fail
  refine (laws_eqTerm t t k2 m2 s2 A2 l2 c2 k1 m1 s1 A1 l1 c1 _ TBB2.out.any TB1.out).mono ?_
  rintro e w3 ⟨rfl, b3⟩
  have B3 := Lib.hid b3
  clear b3 p0 p1 p2 p3 p4 p5 r0 r1 r2 r3 r4 r5
  obtain ⟨p4, p5⟩ := YB1.out.below B3.out
  obtain ⟨r4, r5⟩ := Y2.out.below B3.out
  rw [st]
  go_wp2_with fail
  refine (laws_eqFault f1 f2 _).mono ?_
  rintro e w4 ⟨rfl, b4⟩
  have B4 := Lib.hid (below_then B3.out b4)
  clear b4 p4 p5 r4 r5 B3
  obtain ⟨r0, r1, r2, r3⟩ := X2.out.below B4.out
  simp only [vt] at r0 r1 r2 r3
  have hs4 := B4.out.size
  have T4 := Lib.hid (TBB2.out.belowO (fun b hb => by have := hb.2; omega) B4.out)
  go_wp2_with fail
  refine (laws_markTermH t k2 m2 s2 A2 l2 c2 1 _ _ T4.out (fun b hb => by have := hb.2; omega) (by omega) (by omega)).mono ?_
  rintro e w5 ⟨rfl, row5, kp5⟩
  have R5 := Lib.hid row5
  have KP := Lib.hid kp5
  obtain ⟨kids, ht, hlk, hl', hc', _, _, _, _⟩ := T4.out.inv
  have hkk : t.kids = kids := by rw [ht]; rfl
  rw [hkk] at R5 hkd ⊢
  subst hlk
  have X5 := Lib.hid ((X2.out.below B4.out).keepQ KP.out (fun h => by have := h.2; omega))
  clear row5 kp5 r0 r1 r2 r3 ht
  obtain ⟨r0, r1, r2, r3⟩ := X5.out
  simp only [vt] at r0 r1 r2 r3
  go_wp2_with fail
  refine (laws_heldTerm kids k2 m2 s2 A2 c2 1 _ R5.out.any hl' hc' (by omega) (by omega)).mono ?_
  rintro e w6 ⟨rfl, b6⟩
  have B6 := Lib.hid b6
  clear b6 r0 r1 r2 r3
  have hneg : ¬ (((1 + 3 * nodess kids : Nat) : Int) < 0) := by omega
  have hsame : (((1 + 3 * nodess kids : Nat) : Int) != ((1 + 3 * nodess kids : Nat) : Int)) = false := by simp
  have BW6 : Hid (Below WA.heap.size WA w6) := Lib.hid (((below_then BB.out B4.out).trans (KP.out.below (n := WA.heap.size) (by have := BB.out.size; omega) (fun b hb h => by have := h.1; omega))).trans (B6.out.mono (by have := BB.out.size; have := KP.out.size; omega)))
  have BV6 := Lib.hid (below_then BA.out BW6.out)
  have R6 : Hid (TmRow AnyB w6 A2 (mkTs 1 kids)) := Lib.hid (R5.out.any.belowA B6.out)
  have X6 := Lib.hid (X5.out.below B6.out)
  have XB6 := Lib.hid (X1.out.below BW6.out)
  have YB6 := Lib.hid (Y1.out.below BW6.out)
  have TB6 : Hid (TmIs AnyB w6 [.int .i64 k1, .int .i64 m1, .string s1, .slice A1 l1 c1] t) := Lib.hid (TA.out.any.belowA BW6.out)
  clear X5 R5 KP B6 XB1 YB1 TB1
  go_wp2_with fail
  have c7 := impl_ReadTerm s w6 (TB.out.below BV6.out) hs2
  refine c7.mono ?_
  clear c7
  rw [HR.out]
  rintro e w7 ⟨k7, m7, s7, A7, l7, c7, rfl, t7, b7⟩
  have T7 := Lib.hid t7
  obtain ⟨x7, y7, z7⟩ := two_boxes w7 k7 m7 s7 A7 l7 c7 f1 f2 24 26
  have X7 := Lib.hid x7
  have Y7 := Lib.hid y7
  have BC : Hid (Below w6.heap.size w6 ((w7.alloc (.cells #[.int .i64 k7, .int .i64 m7, .string s7, .slice A7 l7 c7] 24)).alloc (.cells #[.int .i64 f1, .int .i64 f2] 26))) := Lib.hid (below_then b7 z7)
  have TC := Lib.hid (T7.out.belowO (fun b hb => hb.2) z7)
  clear b7 t7 x7 y7 z7
  go_upto_region 16 with fail
  obtain ⟨WC, hWC⟩ : ∃ W, (w7.alloc (.cells #[.int .i64 k7, .int .i64 m7, .string s7, .slice A7 l7 c7] 24)).alloc (.cells #[.int .i64 f1, .int .i64 f2] 26) = W := ⟨_, rfl⟩
  rw [hWC] at X7 Y7 BC TC ⊢
  clear hWC
  generalize hg7 : w7.heap.size = g7 at *
  have XC := Lib.hid (XB6.out.below BC.out)
  have YC := Lib.hid (YB6.out.below BC.out)
  have TD : Hid (TmIs AnyB WC [.int .i64 k1, .int .i64 m1, .string s1, .slice A1 l1 c1] t) := Lib.hid (TB6.out.belowA BC.out)
  have X8 := Lib.hid (X6.out.below BC.out)
  have R8 := Lib.hid (R6.out.belowA BC.out)
  have BV8 := Lib.hid (below_then BV6.out BC.out)
  clear XB6 YB6 TB6 X6 R6 BC BV6 BW6
  obtain ⟨p0, p1, p2, p3⟩ := XC.out
  obtain ⟨p4, p5⟩ := YC.out
  obtain ⟨r0, r1, r2, r3⟩ := X7.out
  obtain ⟨r4, r5⟩ := Y7.out
  simp only [vt] at p0 p1 p2 p3 r0 r1 r2 r3
  go_wp2_with fail
  refine (laws_eqTerm t t k7 m7 s7 A7 l7 c7 k1 m1 s1 A1 l1 c1 _ TC.out.any TD.out).mono ?_
  rintro e w9 ⟨rfl, b9⟩
  have B9 := Lib.hid b9
  clear b9 p0 p1 p2 p3 p4 p5 r0 r1 r2 r3 r4 r5
  obtain ⟨p4, p5⟩ := YC.out.below B9.out
  obtain ⟨r4, r5⟩ := Y7.out.below B9.out
  rw [st]
  go_wp2_with fail
  refine (laws_eqFault f1 f2 _).mono ?_
  rintro e w10 ⟨rfl, b10⟩
  have B10 := Lib.hid (below_then B9.out b10)
  clear b10 p4 p5 r4 r5
  obtain ⟨r0, r1, r2, r3⟩ := X8.out.below B10.out
  simp only [vt] at r0 r1 r2 r3
  go_wp2_with fail
  refine (laws_heldTerm kids k2 m2 s2 A2 c2 1 _ (R8.out.belowA B10.out) hl' hc' (by omega) (by omega)).mono ?_
  rintro e w11 ⟨rfl, b11⟩
  have B11 := Lib.hid (below_then BV8.out (below_then B10.out b11))
  clear b11
  go_wp2_with fail
  go_ret
  exact ⟨rfl, B11.out⟩
end Go.Proofs.YtefcdpkficojgaaDoor
