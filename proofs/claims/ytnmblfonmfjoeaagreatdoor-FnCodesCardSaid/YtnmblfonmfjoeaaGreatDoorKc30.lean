/- Lemmas for the row. -/
import Derived.Test.YtnmblfonmfjoeaaGreatDoorKc28
import Derived.Test.YtnmblfonmfjoeaaGreatDoorKc29
namespace Go.Proofs.YtnmblfonmfjoeaaGreatDoor
open Go.RowKit
set_option maxHeartbeats 6400000
set_option maxRecDepth 100000
set_option linter.unusedVariables false
def RetSOD (w : World) (p : Nat) (A : Option Addr) (c : Nat) (code : List UInt8) (r : St × Cur) (e : Ending) (w' : World) : Prop :=
 ∃ x : V8, e = .returned (.agg #[.int .i64 x.k, .string x.s, .int .i64 x.tk, .int .i64 x.tn, .string x.ts, .slice x.tA x.tm x.tc, .slice x.bA x.bm x.bc, .slice x.eA x.em x.ec]) ∧ StO w' (Made w w') x r.1 ∧ CurAt w' p A c code r.2 ∧ Keep (fun b => b ≠ p) w w'
def RetLO (w : World) (p : Nat) (A : Option Addr) (c : Nat) (code : List UInt8) (r : List St × Cur) (e : Ending) (w' : World) : Prop :=
 ∃ A' c', e = .returned (.slice A' r.1.length c') ∧ r.1.length ≤ c' ∧ c' ≤ maxLen ∧ StRowO w' (Made w w') A' r.1 ∧ CurAt w' p A c code r.2 ∧ Keep (fun b => b ≠ p) w w'
abbrev DsC (d : Nat) : Prop := ∀ (p : Nat) (A : Option Addr) (c : Nat) (code : List UInt8) (k : Cur) (w : World), Rd w 1 A code.length (bv code) → code.length ≤ 1048576 → c ≤ maxLen → CurAt w p A c code k →
 Calls Tryz.prog 71 #[.pointer (some ⟨p, 0, none⟩), .int .i64 (d : Int)] w (RetSOD w p A c code (stS code d k))
abbrev DlC (d : Nat) : Prop := ∀ (p : Nat) (A : Option Addr) (c : Nat) (code : List UInt8) (k : Cur) (w : World), Rd w 1 A code.length (bv code) → code.length ≤ 1048576 → c ≤ maxLen → CurAt w p A c code k →
 Calls Tryz.prog 39 #[.pointer (some ⟨p, 0, none⟩), .int .i64 (d : Int)] w (RetLO w p A c code (lstS code (stS code d) k))
structure BoxS (w : World) (g : Nat) : Prop where
 at' : w.heap[g]? = some (.cells #[.int .i64 0, .string ⟨#[]⟩, .int .i64 0, .int .i64 0, .string ⟨#[]⟩, .slice none 0 0, .slice none 0 0, .slice none 0 0] 71 (0, 0))
theorem BoxS.keep {w w' : World} {g p : Nat} (h : BoxS w g) (hk : Keep (fun b => b ≠ p) w w') (hp : g ≠ p) : BoxS w' g := ⟨(hk.block g (lt_of_block h.at') hp).trans h.at'⟩
theorem BoxS.below {w w' : World} {g : Nat} (h : BoxS w g) (hb : Below w.heap.size w w') : BoxS w' g := ⟨(hb.block g (lt_of_block h.at')).trans h.at'⟩
theorem cells8D {w : World} {g : Nat} {a0 a1 a2 a3 a4 a5 a6 a7 : Value} {T : TypeId} (h : w.heap[g]? = some (.cells #[a0, a1, a2, a3, a4, a5, a6, a7] T (0, 0))) :
  (w.cell? ⟨g, 0, none⟩ = some a0 ∧ w.cell? ⟨g, 1, none⟩ = some a1 ∧ w.cell? ⟨g, 2, none⟩ = some a2 ∧ w.cell? ⟨g, 3, none⟩ = some a3 ∧ w.cell? ⟨g, 4, none⟩ = some a4 ∧ w.cell? ⟨g, 5, none⟩ = some a5 ∧ w.cell? ⟨g, 6, none⟩ = some a6 ∧ w.cell? ⟨g, 7, none⟩ = some a7) ∧
  w.frozen? ⟨g, 0, none⟩ = false ∧ w.frozen? ⟨g, 1, none⟩ = false ∧ w.frozen? ⟨g, 2, none⟩ = false ∧ w.frozen? ⟨g, 3, none⟩ = false ∧ w.frozen? ⟨g, 4, none⟩ = false ∧ w.frozen? ⟨g, 5, none⟩ = false ∧ w.frozen? ⟨g, 6, none⟩ = false ∧ w.frozen? ⟨g, 7, none⟩ = false := by
 refine ⟨⟨?_, ?_, ?_, ?_, ?_, ?_, ?_, ?_⟩, ?_, ?_, ?_, ?_, ?_, ?_, ?_, ?_⟩
 all_goals first | exact Lib.frozen_of_heap h _ | (rw [Lib.cell_of_heap h]; rfl)
theorem stRowO_nil {w : World} {F : Nat → Prop} {A : Option Addr} : StRowO w F A [] := stRowO_of (xs := []) (G := fun _ _ => False) rfl (RowO.nil _ _ _ _ _) (fun i h => absurd h (by simp))
theorem stO_flat {w : World} {F T : Nat → Prop} {k : Int} {s : ByteArray} {tk tn : Int} {ts : ByteArray} {tA : Option Addr} {tm tc : Nat} {t : Tm} (hk : i64in k) (hs : s.size ≤ maxLen) (ht : TmO w T [.int .i64 tk, .int .i64 tn, .string ts, .slice tA tm tc] t) (hF : ∀ b, T b → F b) :
  StO w F ⟨k, s, tk, tn, ts, tA, tm, tc, none, 0, 0, none, 0, 0⟩ (.mk k s t [] []) :=
 StO.mk' (T := T) (B := fun _ => False) (E := fun _ => False) (x := ⟨k, s, tk, tn, ts, tA, tm, tc, none, 0, 0, none, 0, 0⟩) hk hs ht rfl (Nat.le_refl _) (Nat.zero_le _) stRowO_nil rfl (Nat.le_refl _) (Nat.zero_le _) stRowO_nil hF (fun _ h => h.elim) (fun _ h => h.elim) (fun _ _ h => h) (fun _ _ h => h) (fun _ h _ => h)
theorem zeroOD {w : World} : TmO w (fun _ => False) [.int .i64 0, .int .i64 0, .string ⟨#[]⟩, .slice none 0 0] zeroTm := TmO.leafD (by unfold i64in; omega) (by unfold i64in; omega) (Nat.zero_le _)
theorem put8_keep {p g : Nat} {w w' : World} (h : Keep (fun b => b ≠ p) w w') (hg : w.heap.size ≤ g) (x : V8) : Keep (fun b => b ≠ p) w (put8 w' g 0 x) :=
 ((((((((h.fresh.setNew (a := ⟨g, 0, none⟩) hg _).setNew (a := ⟨g, 0 + 1, none⟩) hg _).setNew (a := ⟨g, 0 + 2, none⟩) hg _).setNew (a := ⟨g, 0 + 3, none⟩) hg _).setNew (a := ⟨g, 0 + 4, none⟩) hg _).setNew (a := ⟨g, 0 + 5, none⟩) hg _).setNew (a := ⟨g, 0 + 6, none⟩) hg _).setNew (a := ⟨g, 0 + 7, none⟩) hg _).old (Nat.le_refl _)
theorem put8_cur {w : World} {p g : Nat} {A : Option Addr} {c : Nat} {code : List UInt8} {k : Cur} (h : CurAt w p A c code k) (hg : g ≠ p) (x : V8) : CurAt (put8 w g 0 x) p A c code k :=
 (((((((h.setNew (a := ⟨g, 0, none⟩) hg _).setNew (a := ⟨g, 0 + 1, none⟩) hg _).setNew (a := ⟨g, 0 + 2, none⟩) hg _).setNew (a := ⟨g, 0 + 3, none⟩) hg _).setNew (a := ⟨g, 0 + 4, none⟩) hg _).setNew (a := ⟨g, 0 + 5, none⟩) hg _).setNew (a := ⟨g, 0 + 6, none⟩) hg _).setNew (a := ⟨g, 0 + 7, none⟩) hg _
theorem fin8 {w w2 : World} {p : Nat} {A : Option Addr} {c : Nat} {code : List UInt8} {r : St × Cur} (x : V8) {g0 : Nat} {F : Nat → Prop} (hg : w.heap.size = g0) (hT : StO w2 F x r.1) (hF : ∀ b, F b → g0 < b ∧ b < w2.heap.size) (hc : CurAt w2 p A c code r.2) (hk : Keep (fun b => b ≠ p) w w2) (hp : p < g0) :
  RetSOD w p A c code r (.returned (.agg #[.int .i64 x.k, .string x.s, .int .i64 x.tk, .int .i64 x.tn, .string x.ts, .slice x.tA x.tm x.tc, .slice x.bA x.bm x.bc, .slice x.eA x.em x.ec])) (put8 w2 g0 0 x) := by
 subst hg
 exact ⟨x, rfl, (hT.put8 (g := w.heap.size) (fun h => by have := (hF _ h).1; omega) 0 x).sub (fun b hb => ⟨by have := (hF b hb).1; omega, by rw [put8_size]; exact (hF b hb).2⟩), put8_cur hc (by omega) x, put8_keep hk (Nat.le_refl _) x⟩
theorem pick_st (b p : Nat) (hbp : b ≠ p) (A : Option Addr) (c : Nat) (code : List UInt8) (k : Cur) (w : World) (rz : Rd w 1 (some ⟨b, 0, none⟩) 3 (stN.map Value.string)) (rd : Rd w 1 A code.length (bv code)) (hl : code.length ≤ 1048576) (hc : c ≤ maxLen) (hk : CurAt w p A c code k) :
  Calls Tryz.prog 72 #[.pointer (some ⟨p, 0, none⟩), .slice (some ⟨b, 0, none⟩) 3 3] w fun e w' => e = .returned (.string (pickS stN (belowD code 3 k).1)) ∧ CurAt w' p A c code (belowD code 3 k).2 ∧ Keep (fun b => b ≠ p) w w' :=
 spec_l01Pick stN (by decide) (by decide) b p hbp A c code k w rz rd hl hc hk
theorem pick_lo (b p : Nat) (hbp : b ≠ p) (A : Option Addr) (c : Nat) (code : List UInt8) (k : Cur) (w : World) (rz : Rd w 1 (some ⟨b, 0, none⟩) 3 (loN.map Value.string)) (rd : Rd w 1 A code.length (bv code)) (hl : code.length ≤ 1048576) (hc : c ≤ maxLen) (hk : CurAt w p A c code k) :
  Calls Tryz.prog 72 #[.pointer (some ⟨p, 0, none⟩), .slice (some ⟨b, 0, none⟩) 3 3] w fun e w' => e = .returned (.string (pickS loN (belowD code 3 k).1)) ∧ CurAt w' p A c code (belowD code 3 k).2 ∧ Keep (fun b => b ≠ p) w w' :=
 spec_l01Pick loN (by decide) (by decide) b p hbp A c code k w rz rd hl hc hk
theorem pick_pr (b p : Nat) (hbp : b ≠ p) (A : Option Addr) (c : Nat) (code : List UInt8) (k : Cur) (w : World) (rz : Rd w 1 (some ⟨b, 0, none⟩) 3 (prN.map Value.string)) (rd : Rd w 1 A code.length (bv code)) (hl : code.length ≤ 1048576) (hc : c ≤ maxLen) (hk : CurAt w p A c code k) :
  Calls Tryz.prog 72 #[.pointer (some ⟨p, 0, none⟩), .slice (some ⟨b, 0, none⟩) 3 3] w fun e w' => e = .returned (.string (pickS prN (belowD code 3 k).1)) ∧ CurAt w' p A c code (belowD code 3 k).2 ∧ Keep (fun b => b ≠ p) w w' :=
 spec_l01Pick prN (by decide) (by decide) b p hbp A c code k w rz rd hl hc hk
theorem pick_sz {ns : List ByteArray} (h : ∀ z ∈ ns, z.size ≤ maxLen) (hl : ns.length = 3) (code : List UInt8) (k : Cur) : (pickS ns (belowD code 3 k).1).size ≤ maxLen := by
 have hb := belowD_bd code (n := 3) (by decide) k
 exact pickS_in (fun z => z.size ≤ maxLen) h (by omega)
theorem stN_sz : ∀ z ∈ stN, z.size ≤ maxLen := by unfold maxLen; decide
theorem loN_sz : ∀ z ∈ loN, z.size ≤ maxLen := by unfold maxLen; decide
theorem prN_sz : ∀ z ∈ prN, z.size ≤ maxLen := by unfold maxLen; decide
theorem flat_set {code : List UInt8} {x : Int} {k : Cur} (h : x < 4) : flatS code x k = setS code k := by unfold flatS; rw [if_pos h]
theorem flat_lock {code : List UInt8} {x : Int} {k : Cur} (h : ¬ x < 4) (h2 : x < 6) : flatS code x k = wordS code loN 6 k := by unfold flatS; rw [if_neg h, if_pos h2]
theorem flat_unlock {code : List UInt8} {x : Int} {k : Cur} (h : ¬ x < 6) (h2 : x < 8) : flatS code x k = wordS code loN 7 k := by unfold flatS; rw [if_neg (by omega), if_neg h, if_pos h2]
theorem flat_call {code : List UInt8} {k : Cur} : flatS code 8 k = wordS code prN 4 k := by unfold flatS; rw [if_neg (by omega), if_neg (by omega), if_neg (by omega), if_pos rfl]
theorem flat_spawn {code : List UInt8} {k : Cur} : flatS code 9 k = wordS code prN 5 k := by unfold flatS; rw [if_neg (by omega), if_neg (by omega), if_neg (by omega), if_neg (by omega), if_pos rfl]
theorem flat_skip {code : List UInt8} {k : Cur} : flatS code 10 k = (skipS, k) := by unfold flatS; rw [if_neg (by omega), if_neg (by omega), if_neg (by omega), if_neg (by omega), if_neg (by omega)]
theorem stS_zero (code : List UInt8) (k : Cur) : stS code 0 k = flatS code (if 11 ≤ (belowD code 14 k).1 then (belowD code 14 k).1 - 6 else (belowD code 14 k).1) (belowD code 14 k).2 := rfl
theorem stS_flat (code : List UInt8) (d : Nat) (k : Cur) (h : (belowD code 14 k).1 < 11) : stS code (d + 1) k = flatS code (belowD code 14 k).1 (belowD code 14 k).2 := by rw [stS, if_pos h]
theorem stS_while (code : List UInt8) (d : Nat) (k : Cur) (h : (belowD code 14 k).1 = 11) : stS code (d + 1) k = whileS code (stS code d) (belowD code 14 k).2 := by rw [stS, if_neg (by omega), if_pos h]
theorem stS_if (code : List UInt8) (d : Nat) (k : Cur) (h : 11 < (belowD code 14 k).1) : stS code (d + 1) k = ifS code (stS code d) (belowD code 14 k).2 := by rw [stS, if_neg (by omega), if_neg (by omega)]
theorem ifS_yes {code : List UInt8} {one : Cur → St × Cur} {k : Cur} (h : (belowD code 2 (lstS code one (termD code 1 k).2).2).1 = 0) : ifS code one k = (.mk 2 ByteArray.empty (termD code 1 k).1 (lstS code one (termD code 1 k).2).1 (lstS code one (belowD code 2 (lstS code one (termD code 1 k).2).2).2).1, (lstS code one (belowD code 2 (lstS code one (termD code 1 k).2).2).2).2) := by unfold ifS; rw [if_pos h]
theorem ifS_no {code : List UInt8} {one : Cur → St × Cur} {k : Cur} (h : ¬ (belowD code 2 (lstS code one (termD code 1 k).2).2).1 = 0) : ifS code one k = (.mk 2 ByteArray.empty (termD code 1 k).1 (lstS code one (termD code 1 k).2).1 [], (belowD code 2 (lstS code one (termD code 1 k).2).2).2) := by unfold ifS; rw [if_neg h]
theorem spec_l01Once (n : Int) (p : Nat) (A : Option Addr) (c : Nat) (code : List UInt8) (k : Cur) (w : World) (rd : Rd w 1 A code.length (bv code)) (hl : code.length ≤ 1048576) (hc : c ≤ maxLen) (hk : CurAt w p A c code k) (hn : n ≤ 1000000000) :
  Calls Tryz.prog 41 #[.pointer (some ⟨p, 0, none⟩), .int .i64 n] w fun e w' => e = .returned (.bool ((belowD code n k).1 == 0)) ∧ CurAt w' p A c code (belowD code n k).2 ∧ Keep (fun b => b ≠ p) w w' := by
 have RD := qh rd
 have HK := qh hk
 clear rd hk
 go_enter Tryz.func41, Tryz.ntmps41
 go_wp2_with fail
 refine (spec_l01Below n p A c code k _ RD.out hl hc HK.out hn).mono ?_
 rintro e w1 ⟨rfl, k1, kp1⟩
 have K1 := qh k1
 have P1 := qh kp1
 clear k1 kp1
 generalize hx : belowD code n k = y at *
 obtain ⟨x, k1⟩ := y
 have HX := qh hx
 clear hx
 simp only at K1
 go_wp2_with fail
 go_ret
 rw [HX.out]
 exact ⟨rfl, K1.out, P1.out⟩
theorem spec_l04Stmt_zero : DsC 0 := by
 intro p A c code k w rd hl hc hk
 have RD := qh rd
 have HK := qh hk
 have hb := belowD_bd code (n := 14) (by decide) k
 have hpl := lt_of_block hk.at'
 have TZ0 := qh (stS_zero code k)
 clear rd hk
 go_enter Tryz.func71, Tryz.ntmps71
 go_wp2_with fail
 refine (spec_l01Below 14 p A c code k _ (RD.out.alloc _) hl hc (HK.out.keep zB) (by omega)).mono ?_
 rintro e w1 ⟨rfl, k1, kp1⟩
 have K1 := qh k1
 have P1 : Hid (Keep (fun b => b ≠ p) w w1) := qh ((Keep.alloc (Keep.refl _ _) _).trans kp1 (fun _ _ h => h))
 have R1 := qh (rd_apart (RD.out.alloc _) (HK.out.keep zB) kp1)
 have X1 : Hid (BoxS w1 w.heap.size) := qh (BoxS.keep ⟨heap_alloc_new _ _⟩ kp1 (by omega))
 have hs1 := kp1.size
 simp only [World.size_alloc] at hs1
 clear k1 kp1
 generalize hx : belowD code 14 k = y at *
 obtain ⟨x, k1⟩ := y
 have HX := qh hx
 clear hx
 simp only at hb K1
 have TZ := TZ0.out
 clear TZ0
 simp only at TZ
 obtain ⟨h0, h1⟩ := hb
 by_cases h11 : 11 ≤ x
 ·rw [if_pos h11] at TZ
  have h4 : ¬ x - 6 < 4 := by omega
  by_cases h6 : x - 6 < 6
  ·rw [flat_lock h4 h6, wordS] at TZ
   have TZ := qh TZ
   go_wp2_with fail
   refine (pick_lo _ p (by omega) A c code k1 _ (Rd.new _ 1 3 _ _ rfl) (R1.out.alloc _) hl hc (K1.out.keep zB)).mono ?_
   rintro e w2 ⟨rfl, k2, kp2⟩
   have K2 := qh k2
   have P2 : Hid (Keep (fun b => b ≠ p) w w2) := qh ((P1.out.alloc _).trans kp2 (fun _ _ h => h))
   have X2 := (X1.out.below (Below.alloc (Below.refl w1.heap.size w1) (Nat.le_refl _) _)).keep kp2 (by omega)
   obtain ⟨⟨c0, c1, c2, c3, c4, c5, c6, c7⟩, f0, f1, f2, f3, f4, f5, f6, f7⟩ := cells8D X2.at'
   clear k2 kp2
   go_wp2_with fail
   refine bodyPost_ret (v := .agg #[.int .i64 6, .string (pickS loN (belowD code 3 k1).1), .int .i64 0, .int .i64 0, .string ⟨#[]⟩, .slice none 0 0, .slice none 0 0, .slice none 0 0]) (by simp [results, Tryz.results71, go_sem, c0, c1, c2, c3, c4, c5, c6, c7]) rfl ?_
   rw [TZ.out]
   exact fin8 (F := fun _ => False) ⟨6, pickS loN (belowD code 3 k1).1, 0, 0, ⟨#[]⟩, none, 0, 0, none, 0, 0, none, 0, 0⟩ rfl (stO_flat (by unfold i64in; omega) (pick_sz loN_sz rfl code k1) zeroOD (fun _ h => h)) (fun _ h => h.elim) K2.out P2.out hpl
  ·have h8 : x - 6 < 8 := by omega
   rw [flat_unlock h6 h8, wordS] at TZ
   have TZ := qh TZ
   go_wp2_with fail
   refine (pick_lo _ p (by omega) A c code k1 _ (Rd.new _ 1 3 _ _ rfl) (R1.out.alloc _) hl hc (K1.out.keep zB)).mono ?_
   rintro e w2 ⟨rfl, k2, kp2⟩
   have K2 := qh k2
   have P2 : Hid (Keep (fun b => b ≠ p) w w2) := qh ((P1.out.alloc _).trans kp2 (fun _ _ h => h))
   have X2 := (X1.out.below (Below.alloc (Below.refl w1.heap.size w1) (Nat.le_refl _) _)).keep kp2 (by omega)
   obtain ⟨⟨c0, c1, c2, c3, c4, c5, c6, c7⟩, f0, f1, f2, f3, f4, f5, f6, f7⟩ := cells8D X2.at'
   clear k2 kp2
   go_wp2_with fail
   refine bodyPost_ret (v := .agg #[.int .i64 7, .string (pickS loN (belowD code 3 k1).1), .int .i64 0, .int .i64 0, .string ⟨#[]⟩, .slice none 0 0, .slice none 0 0, .slice none 0 0]) (by simp [results, Tryz.results71, go_sem, c0, c1, c2, c3, c4, c5, c6, c7]) rfl ?_
   rw [TZ.out]
   exact fin8 (F := fun _ => False) ⟨7, pickS loN (belowD code 3 k1).1, 0, 0, ⟨#[]⟩, none, 0, 0, none, 0, 0, none, 0, 0⟩ rfl (stO_flat (by unfold i64in; omega) (pick_sz loN_sz rfl code k1) zeroOD (fun _ h => h)) (fun _ h => h.elim) K2.out P2.out hpl
 ·rw [if_neg h11] at TZ
  by_cases h4 : x < 4
  ·rw [flat_set h4, setS] at TZ
   have TZ := qh TZ
   go_wp2_with fail
   refine (pick_st _ p (by omega) A c code k1 _ (Rd.new _ 1 3 _ _ rfl) (R1.out.alloc _) hl hc (K1.out.keep zB)).mono ?_
   rintro e w2 ⟨rfl, k2, kp2⟩
   have K2 := qh k2
   have R2 := qh (rd_apart (R1.out.alloc _) (K1.out.keep zB) kp2)
   have P2 : Hid (Keep (fun b => b ≠ p) w w2) := qh ((P1.out.alloc _).trans kp2 (fun _ _ h => h))
   have X2 := qh ((X1.out.below (Below.alloc (Below.refl w1.heap.size w1) (Nat.le_refl _) _)).keep kp2 (by omega))
   have hs2 := kp2.size
   simp only [World.size_alloc] at hs2
   have HZ := qh (pick_sz stN_sz rfl code k1)
   clear k2 kp2
   generalize belowD code 3 k1 = y3 at *
   obtain ⟨x3, k3⟩ := y3
   simp only at K2 HZ
   go_wp2_with fail
   refine (spec_l03TermO 2 (by decide) p A c code k3 _ R2.out hl hc K2.out).mono ?_
   rintro e w3 ⟨tk, tn, ts, tA, tm, tc, rfl, t3, k3', kp3⟩
   have T3 := qh t3
   have K3 := qh k3'
   have P3 := qh (P2.out.trans kp3 (fun _ _ h => h))
   have X3 := X2.out.keep kp3 (by omega)
   obtain ⟨⟨c0, c1, c2, c3, c4, c5, c6, c7⟩, f0, f1, f2, f3, f4, f5, f6, f7⟩ := cells8D X3.at'
   clear t3 k3' kp3
   go_wp2_with fail
   refine bodyPost_ret (v := .agg #[.int .i64 1, .string (pickS stN x3), .int .i64 tk, .int .i64 tn, .string ts, .slice tA tm tc, .slice none 0 0, .slice none 0 0]) (by simp [results, Tryz.results71, go_sem, c0, c1, c2, c3, c4, c5, c6, c7]) rfl ?_
   rw [TZ.out]
   exact fin8 (F := Made w2 w3) ⟨1, pickS stN x3, tk, tn, ts, tA, tm, tc, none, 0, 0, none, 0, 0⟩ rfl (stO_flat (by unfold i64in; omega) HZ.out T3.out (fun _ h => h)) (fun b h => ⟨by have := h.1; omega, h.2⟩) K3.out P3.out hpl
  by_cases h6 : x < 6
  ·rw [flat_lock h4 h6, wordS] at TZ
   have TZ := qh TZ
   go_wp2_with fail
   refine (pick_lo _ p (by omega) A c code k1 _ (Rd.new _ 1 3 _ _ rfl) (R1.out.alloc _) hl hc (K1.out.keep zB)).mono ?_
   rintro e w2 ⟨rfl, k2, kp2⟩
   have K2 := qh k2
   have P2 : Hid (Keep (fun b => b ≠ p) w w2) := qh ((P1.out.alloc _).trans kp2 (fun _ _ h => h))
   have X2 := (X1.out.below (Below.alloc (Below.refl w1.heap.size w1) (Nat.le_refl _) _)).keep kp2 (by omega)
   obtain ⟨⟨c0, c1, c2, c3, c4, c5, c6, c7⟩, f0, f1, f2, f3, f4, f5, f6, f7⟩ := cells8D X2.at'
   clear k2 kp2
   go_wp2_with fail
   refine bodyPost_ret (v := .agg #[.int .i64 6, .string (pickS loN (belowD code 3 k1).1), .int .i64 0, .int .i64 0, .string ⟨#[]⟩, .slice none 0 0, .slice none 0 0, .slice none 0 0]) (by simp [results, Tryz.results71, go_sem, c0, c1, c2, c3, c4, c5, c6, c7]) rfl ?_
   rw [TZ.out]
   exact fin8 (F := fun _ => False) ⟨6, pickS loN (belowD code 3 k1).1, 0, 0, ⟨#[]⟩, none, 0, 0, none, 0, 0, none, 0, 0⟩ rfl (stO_flat (by unfold i64in; omega) (pick_sz loN_sz rfl code k1) zeroOD (fun _ h => h)) (fun _ h => h.elim) K2.out P2.out hpl
  by_cases h8 : x < 8
  ·rw [flat_unlock h6 h8, wordS] at TZ
   have TZ := qh TZ
   go_wp2_with fail
   refine (pick_lo _ p (by omega) A c code k1 _ (Rd.new _ 1 3 _ _ rfl) (R1.out.alloc _) hl hc (K1.out.keep zB)).mono ?_
   rintro e w2 ⟨rfl, k2, kp2⟩
   have K2 := qh k2
   have P2 : Hid (Keep (fun b => b ≠ p) w w2) := qh ((P1.out.alloc _).trans kp2 (fun _ _ h => h))
   have X2 := (X1.out.below (Below.alloc (Below.refl w1.heap.size w1) (Nat.le_refl _) _)).keep kp2 (by omega)
   obtain ⟨⟨c0, c1, c2, c3, c4, c5, c6, c7⟩, f0, f1, f2, f3, f4, f5, f6, f7⟩ := cells8D X2.at'
   clear k2 kp2
   go_wp2_with fail
   refine bodyPost_ret (v := .agg #[.int .i64 7, .string (pickS loN (belowD code 3 k1).1), .int .i64 0, .int .i64 0, .string ⟨#[]⟩, .slice none 0 0, .slice none 0 0, .slice none 0 0]) (by simp [results, Tryz.results71, go_sem, c0, c1, c2, c3, c4, c5, c6, c7]) rfl ?_
   rw [TZ.out]
   exact fin8 (F := fun _ => False) ⟨7, pickS loN (belowD code 3 k1).1, 0, 0, ⟨#[]⟩, none, 0, 0, none, 0, 0, none, 0, 0⟩ rfl (stO_flat (by unfold i64in; omega) (pick_sz loN_sz rfl code k1) zeroOD (fun _ h => h)) (fun _ h => h.elim) K2.out P2.out hpl
  by_cases e8 : x = 8
  ·subst e8
   rw [flat_call, wordS] at TZ
   have TZ := qh TZ
   go_wp2_with fail
   refine (pick_pr _ p (by omega) A c code k1 _ (Rd.new _ 1 3 _ _ rfl) (R1.out.alloc _) hl hc (K1.out.keep zB)).mono ?_
   rintro e w2 ⟨rfl, k2, kp2⟩
   have K2 := qh k2
   have P2 : Hid (Keep (fun b => b ≠ p) w w2) := qh ((P1.out.alloc _).trans kp2 (fun _ _ h => h))
   have X2 := (X1.out.below (Below.alloc (Below.refl w1.heap.size w1) (Nat.le_refl _) _)).keep kp2 (by omega)
   obtain ⟨⟨c0, c1, c2, c3, c4, c5, c6, c7⟩, f0, f1, f2, f3, f4, f5, f6, f7⟩ := cells8D X2.at'
   clear k2 kp2
   go_wp2_with fail
   refine bodyPost_ret (v := .agg #[.int .i64 4, .string (pickS prN (belowD code 3 k1).1), .int .i64 0, .int .i64 0, .string ⟨#[]⟩, .slice none 0 0, .slice none 0 0, .slice none 0 0]) (by simp [results, Tryz.results71, go_sem, c0, c1, c2, c3, c4, c5, c6, c7]) rfl ?_
   rw [TZ.out]
   exact fin8 (F := fun _ => False) ⟨4, pickS prN (belowD code 3 k1).1, 0, 0, ⟨#[]⟩, none, 0, 0, none, 0, 0, none, 0, 0⟩ rfl (stO_flat (by unfold i64in; omega) (pick_sz prN_sz rfl code k1) zeroOD (fun _ h => h)) (fun _ h => h.elim) K2.out P2.out hpl
  by_cases e9 : x = 9
  ·subst e9
   rw [flat_spawn, wordS] at TZ
   have TZ := qh TZ
   go_wp2_with fail
   refine (pick_pr _ p (by omega) A c code k1 _ (Rd.new _ 1 3 _ _ rfl) (R1.out.alloc _) hl hc (K1.out.keep zB)).mono ?_
   rintro e w2 ⟨rfl, k2, kp2⟩
   have K2 := qh k2
   have P2 : Hid (Keep (fun b => b ≠ p) w w2) := qh ((P1.out.alloc _).trans kp2 (fun _ _ h => h))
   have X2 := (X1.out.below (Below.alloc (Below.refl w1.heap.size w1) (Nat.le_refl _) _)).keep kp2 (by omega)
   obtain ⟨⟨c0, c1, c2, c3, c4, c5, c6, c7⟩, f0, f1, f2, f3, f4, f5, f6, f7⟩ := cells8D X2.at'
   clear k2 kp2
   go_wp2_with fail
   refine bodyPost_ret (v := .agg #[.int .i64 5, .string (pickS prN (belowD code 3 k1).1), .int .i64 0, .int .i64 0, .string ⟨#[]⟩, .slice none 0 0, .slice none 0 0, .slice none 0 0]) (by simp [results, Tryz.results71, go_sem, c0, c1, c2, c3, c4, c5, c6, c7]) rfl ?_
   rw [TZ.out]
   exact fin8 (F := fun _ => False) ⟨5, pickS prN (belowD code 3 k1).1, 0, 0, ⟨#[]⟩, none, 0, 0, none, 0, 0, none, 0, 0⟩ rfl (stO_flat (by unfold i64in; omega) (pick_sz prN_sz rfl code k1) zeroOD (fun _ h => h)) (fun _ h => h.elim) K2.out P2.out hpl
  have e10 : x = 10 := by omega
  subst e10
  rw [flat_skip] at TZ
  have TZ := qh TZ
  obtain ⟨⟨c0, c1, c2, c3, c4, c5, c6, c7⟩, f0, f1, f2, f3, f4, f5, f6, f7⟩ := cells8D X1.out.at'
  go_wp2_with fail
  refine bodyPost_ret (v := .agg #[.int .i64 8, .string ⟨#[]⟩, .int .i64 0, .int .i64 0, .string ⟨#[]⟩, .slice none 0 0, .slice none 0 0, .slice none 0 0]) (by simp [results, Tryz.results71, go_sem, c0, c1, c2, c3, c4, c5, c6, c7]) rfl ?_
  (try rw [TZ.out])
  exact fin8 (F := fun _ => False) ⟨8, ⟨#[]⟩, 0, 0, ⟨#[]⟩, none, 0, 0, none, 0, 0, none, 0, 0⟩ rfl (stO_flat (by unfold i64in; omega) (Nat.zero_le _) zeroOD (fun _ h => h)) (fun _ h => h.elim) K1.out P1.out hpl
theorem spec_l04Stmt_succ (d : Nat) (hd : d + 1 ≤ 100) (ll : DlC d) : DsC (d + 1) := by
 intro p A c code k w rd hl hc hk
 have RD := qh rd
 have HK := qh hk
 have hb := belowD_bd code (n := 14) (by decide) k
 have hpl := lt_of_block hk.at'
 have TF0 := qh (stS_flat code d k)
 have TW0 := qh (stS_while code d k)
 have TI0 := qh (stS_if code d k)
 have LL := qh ll
 have hdz : ((d + 1 : Nat) : Int) - 1 = (d : Int) := by omega
 have hdp : ¬ (((d + 1 : Nat) : Int) ≤ 0) := by omega
 clear rd hk ll
 go_enter Tryz.func71, Tryz.ntmps71
 go_wp2_with fail
 refine (spec_l01Below 14 p A c code k _ (RD.out.alloc _) hl hc (HK.out.keep zB) (by omega)).mono ?_
 rintro e w1 ⟨rfl, k1, kp1⟩
 have K1 := qh k1
 have P1 : Hid (Keep (fun b => b ≠ p) w w1) := qh ((Keep.alloc (Keep.refl _ _) _).trans kp1 (fun _ _ h => h))
 have R1 := qh (rd_apart (RD.out.alloc _) (HK.out.keep zB) kp1)
 have X1 : Hid (BoxS w1 w.heap.size) := qh (BoxS.keep ⟨heap_alloc_new _ _⟩ kp1 (by omega))
 have hs1 := kp1.size
 simp only [World.size_alloc] at hs1
 clear k1 kp1
 generalize hx : belowD code 14 k = y at *
 obtain ⟨x, k1⟩ := y
 have HX := qh hx
 clear hx
 simp only at hb K1
 have TF := TF0.out
 have TW := TW0.out
 have TI := TI0.out
 simp only at TF TW TI
 clear TF0 TW0 TI0
 obtain ⟨h0, h1⟩ := hb
 by_cases h11 : x < 11
 ·have TZ := TF h11
  clear TF TW TI hdz
  by_cases h4 : x < 4
  ·rw [flat_set h4, setS] at TZ
   have TZ := qh TZ
   go_wp2_with fail
   refine (pick_st _ p (by omega) A c code k1 _ (Rd.new _ 1 3 _ _ rfl) (R1.out.alloc _) hl hc (K1.out.keep zB)).mono ?_
   rintro e w2 ⟨rfl, k2, kp2⟩
   have K2 := qh k2
   have R2 := qh (rd_apart (R1.out.alloc _) (K1.out.keep zB) kp2)
   have P2 : Hid (Keep (fun b => b ≠ p) w w2) := qh ((P1.out.alloc _).trans kp2 (fun _ _ h => h))
   have X2 := qh ((X1.out.below (Below.alloc (Below.refl w1.heap.size w1) (Nat.le_refl _) _)).keep kp2 (by omega))
   have hs2 := kp2.size
   simp only [World.size_alloc] at hs2
   have HZ := qh (pick_sz stN_sz rfl code k1)
   clear k2 kp2
   generalize belowD code 3 k1 = y3 at *
   obtain ⟨x3, k3⟩ := y3
   simp only at K2 HZ
   go_wp2_with fail
   refine (spec_l03TermO 2 (by decide) p A c code k3 _ R2.out hl hc K2.out).mono ?_
   rintro e w3 ⟨tk, tn, ts, tA, tm, tc, rfl, t3, k3', kp3⟩
   have T3 := qh t3
   have K3 := qh k3'
   have P3 := qh (P2.out.trans kp3 (fun _ _ h => h))
   have X3 := X2.out.keep kp3 (by omega)
   obtain ⟨⟨c0, c1, c2, c3, c4, c5, c6, c7⟩, f0, f1, f2, f3, f4, f5, f6, f7⟩ := cells8D X3.at'
   clear t3 k3' kp3
   go_wp2_with fail
   refine bodyPost_ret (v := .agg #[.int .i64 1, .string (pickS stN x3), .int .i64 tk, .int .i64 tn, .string ts, .slice tA tm tc, .slice none 0 0, .slice none 0 0]) (by simp [results, Tryz.results71, go_sem, c0, c1, c2, c3, c4, c5, c6, c7]) rfl ?_
   rw [TZ.out]
   exact fin8 (F := Made w2 w3) ⟨1, pickS stN x3, tk, tn, ts, tA, tm, tc, none, 0, 0, none, 0, 0⟩ rfl (stO_flat (by unfold i64in; omega) HZ.out T3.out (fun _ h => h)) (fun b h => ⟨by have := h.1; omega, h.2⟩) K3.out P3.out hpl
  by_cases h6 : x < 6
  ·rw [flat_lock h4 h6, wordS] at TZ
   have TZ := qh TZ
   go_wp2_with fail
   refine (pick_lo _ p (by omega) A c code k1 _ (Rd.new _ 1 3 _ _ rfl) (R1.out.alloc _) hl hc (K1.out.keep zB)).mono ?_
   rintro e w2 ⟨rfl, k2, kp2⟩
   have K2 := qh k2
   have P2 : Hid (Keep (fun b => b ≠ p) w w2) := qh ((P1.out.alloc _).trans kp2 (fun _ _ h => h))
   have X2 := (X1.out.below (Below.alloc (Below.refl w1.heap.size w1) (Nat.le_refl _) _)).keep kp2 (by omega)
   obtain ⟨⟨c0, c1, c2, c3, c4, c5, c6, c7⟩, f0, f1, f2, f3, f4, f5, f6, f7⟩ := cells8D X2.at'
   clear k2 kp2
   go_wp2_with fail
   refine bodyPost_ret (v := .agg #[.int .i64 6, .string (pickS loN (belowD code 3 k1).1), .int .i64 0, .int .i64 0, .string ⟨#[]⟩, .slice none 0 0, .slice none 0 0, .slice none 0 0]) (by simp [results, Tryz.results71, go_sem, c0, c1, c2, c3, c4, c5, c6, c7]) rfl ?_
   rw [TZ.out]
   exact fin8 (F := fun _ => False) ⟨6, pickS loN (belowD code 3 k1).1, 0, 0, ⟨#[]⟩, none, 0, 0, none, 0, 0, none, 0, 0⟩ rfl (stO_flat (by unfold i64in; omega) (pick_sz loN_sz rfl code k1) zeroOD (fun _ h => h)) (fun _ h => h.elim) K2.out P2.out hpl
  by_cases h8 : x < 8
  ·rw [flat_unlock h6 h8, wordS] at TZ
   have TZ := qh TZ
   go_wp2_with fail
   refine (pick_lo _ p (by omega) A c code k1 _ (Rd.new _ 1 3 _ _ rfl) (R1.out.alloc _) hl hc (K1.out.keep zB)).mono ?_
   rintro e w2 ⟨rfl, k2, kp2⟩
   have K2 := qh k2
   have P2 : Hid (Keep (fun b => b ≠ p) w w2) := qh ((P1.out.alloc _).trans kp2 (fun _ _ h => h))
   have X2 := (X1.out.below (Below.alloc (Below.refl w1.heap.size w1) (Nat.le_refl _) _)).keep kp2 (by omega)
   obtain ⟨⟨c0, c1, c2, c3, c4, c5, c6, c7⟩, f0, f1, f2, f3, f4, f5, f6, f7⟩ := cells8D X2.at'
   clear k2 kp2
   go_wp2_with fail
   refine bodyPost_ret (v := .agg #[.int .i64 7, .string (pickS loN (belowD code 3 k1).1), .int .i64 0, .int .i64 0, .string ⟨#[]⟩, .slice none 0 0, .slice none 0 0, .slice none 0 0]) (by simp [results, Tryz.results71, go_sem, c0, c1, c2, c3, c4, c5, c6, c7]) rfl ?_
   rw [TZ.out]
   exact fin8 (F := fun _ => False) ⟨7, pickS loN (belowD code 3 k1).1, 0, 0, ⟨#[]⟩, none, 0, 0, none, 0, 0, none, 0, 0⟩ rfl (stO_flat (by unfold i64in; omega) (pick_sz loN_sz rfl code k1) zeroOD (fun _ h => h)) (fun _ h => h.elim) K2.out P2.out hpl
  by_cases e8 : x = 8
  ·subst e8
   rw [flat_call, wordS] at TZ
   have TZ := qh TZ
   go_wp2_with fail
   refine (pick_pr _ p (by omega) A c code k1 _ (Rd.new _ 1 3 _ _ rfl) (R1.out.alloc _) hl hc (K1.out.keep zB)).mono ?_
   rintro e w2 ⟨rfl, k2, kp2⟩
   have K2 := qh k2
   have P2 : Hid (Keep (fun b => b ≠ p) w w2) := qh ((P1.out.alloc _).trans kp2 (fun _ _ h => h))
   have X2 := (X1.out.below (Below.alloc (Below.refl w1.heap.size w1) (Nat.le_refl _) _)).keep kp2 (by omega)
   obtain ⟨⟨c0, c1, c2, c3, c4, c5, c6, c7⟩, f0, f1, f2, f3, f4, f5, f6, f7⟩ := cells8D X2.at'
   clear k2 kp2
   go_wp2_with fail
   refine bodyPost_ret (v := .agg #[.int .i64 4, .string (pickS prN (belowD code 3 k1).1), .int .i64 0, .int .i64 0, .string ⟨#[]⟩, .slice none 0 0, .slice none 0 0, .slice none 0 0]) (by simp [results, Tryz.results71, go_sem, c0, c1, c2, c3, c4, c5, c6, c7]) rfl ?_
   rw [TZ.out]
   exact fin8 (F := fun _ => False) ⟨4, pickS prN (belowD code 3 k1).1, 0, 0, ⟨#[]⟩, none, 0, 0, none, 0, 0, none, 0, 0⟩ rfl (stO_flat (by unfold i64in; omega) (pick_sz prN_sz rfl code k1) zeroOD (fun _ h => h)) (fun _ h => h.elim) K2.out P2.out hpl
  by_cases e9 : x = 9
  ·subst e9
   rw [flat_spawn, wordS] at TZ
   have TZ := qh TZ
   go_wp2_with fail
   refine (pick_pr _ p (by omega) A c code k1 _ (Rd.new _ 1 3 _ _ rfl) (R1.out.alloc _) hl hc (K1.out.keep zB)).mono ?_
   rintro e w2 ⟨rfl, k2, kp2⟩
   have K2 := qh k2
   have P2 : Hid (Keep (fun b => b ≠ p) w w2) := qh ((P1.out.alloc _).trans kp2 (fun _ _ h => h))
   have X2 := (X1.out.below (Below.alloc (Below.refl w1.heap.size w1) (Nat.le_refl _) _)).keep kp2 (by omega)
   obtain ⟨⟨c0, c1, c2, c3, c4, c5, c6, c7⟩, f0, f1, f2, f3, f4, f5, f6, f7⟩ := cells8D X2.at'
   clear k2 kp2
   go_wp2_with fail
   refine bodyPost_ret (v := .agg #[.int .i64 5, .string (pickS prN (belowD code 3 k1).1), .int .i64 0, .int .i64 0, .string ⟨#[]⟩, .slice none 0 0, .slice none 0 0, .slice none 0 0]) (by simp [results, Tryz.results71, go_sem, c0, c1, c2, c3, c4, c5, c6, c7]) rfl ?_
   rw [TZ.out]
   exact fin8 (F := fun _ => False) ⟨5, pickS prN (belowD code 3 k1).1, 0, 0, ⟨#[]⟩, none, 0, 0, none, 0, 0, none, 0, 0⟩ rfl (stO_flat (by unfold i64in; omega) (pick_sz prN_sz rfl code k1) zeroOD (fun _ h => h)) (fun _ h => h.elim) K2.out P2.out hpl
  have e10 : x = 10 := by omega
  subst e10
  rw [flat_skip] at TZ
  have TZ := qh TZ
  obtain ⟨⟨c0, c1, c2, c3, c4, c5, c6, c7⟩, f0, f1, f2, f3, f4, f5, f6, f7⟩ := cells8D X1.out.at'
  go_wp2_with fail
  refine bodyPost_ret (v := .agg #[.int .i64 8, .string ⟨#[]⟩, .int .i64 0, .int .i64 0, .string ⟨#[]⟩, .slice none 0 0, .slice none 0 0, .slice none 0 0]) (by simp [results, Tryz.results71, go_sem, c0, c1, c2, c3, c4, c5, c6, c7]) rfl ?_
  (try rw [TZ.out])
  exact fin8 (F := fun _ => False) ⟨8, ⟨#[]⟩, 0, 0, ⟨#[]⟩, none, 0, 0, none, 0, 0, none, 0, 0⟩ rfl (stO_flat (by unfold i64in; omega) (Nat.zero_le _) zeroOD (fun _ h => h)) (fun _ h => h.elim) K1.out P1.out hpl
 ·have h4 : ¬ x < 4 := by omega
  have h6 : ¬ x < 6 := by omega
  have h8 : ¬ x < 8 := by omega
  have e8 : ¬ x = 8 := by omega
  have e9 : ¬ x = 9 := by omega
  have e10 : ¬ x = 10 := by omega
  by_cases e11 : x = 11
  ·have TZ := TW e11
   clear TF TW TI
   subst e11
   unfold whileS at TZ
   go_wp2_with fail
   refine (spec_l03TermO 1 (by decide) p A c code k1 _ R1.out hl hc K1.out).mono ?_
   rintro e w2 ⟨tk, tn, ts, tA, tm, tc, rfl, t2, k2, kp2⟩
   have T2 := qh t2
   have K2 := qh k2
   have R2 := qh (rd_apart R1.out K1.out kp2)
   have P2 := qh (P1.out.trans kp2 (fun _ _ h => h))
   have X2 := qh (X1.out.keep kp2 (by omega))
   have hs2 := kp2.size
   clear t2 k2 kp2
   generalize termD code 1 k1 = rt at *
   obtain ⟨t, kt⟩ := rt
   simp only at T2 K2 TZ
   go_wp2_with fail
   refine (LL.out p A c code kt _ R2.out hl hc K2.out).mono ?_
   rintro e w3 ⟨bA, bc, rfl, hb1, hb2, row3, k3, kp3⟩
   have B3 := qh row3
   have K3 := qh k3
   have R3 := qh (rd_apart R2.out K2.out kp3)
   have P3 := qh (P2.out.trans kp3 (fun _ _ h => h))
   have T3 := qh (T2.out.keep fun b hb => kp3.block b hb.2 (by have := hb.1; omega))
   have X3 := qh (X2.out.keep kp3 (by omega))
   have hs3 := kp3.size
   clear row3 k3 kp3
   generalize lstS code (stS code d) kt = rl at *
   obtain ⟨bl, kl⟩ := rl
   simp only at B3 K3 TZ hb1
   have TZ := qh TZ
   obtain ⟨⟨c0, c1, c2, c3, c4, c5, c6, c7⟩, f0, f1, f2, f3, f4, f5, f6, f7⟩ := cells8D X3.out.at'
   go_wp2_with fail
   refine bodyPost_ret (v := .agg #[.int .i64 3, .string ⟨#[]⟩, .int .i64 tk, .int .i64 tn, .string ts, .slice tA tm tc, .slice bA bl.length bc, .slice none 0 0]) (by simp [results, Tryz.results71, go_sem, c0, c1, c2, c3, c4, c5, c6, c7]) rfl ?_
   rw [TZ.out]
   exact fin8 (F := fun b => w1.heap.size ≤ b ∧ b < w3.heap.size) ⟨3, ⟨#[]⟩, tk, tn, ts, tA, tm, tc, bA, bl.length, bc, none, 0, 0⟩ rfl (StO.mk' (T := Made w1 w2) (B := Made w2 w3) (E := fun _ => False) (x := ⟨3, ⟨#[]⟩, tk, tn, ts, tA, tm, tc, bA, bl.length, bc, none, 0, 0⟩) (show i64in 3 by unfold i64in; omega) (Nat.zero_le _) T3.out rfl hb1 hb2 B3.out rfl (Nat.le_refl _) (Nat.zero_le _) stRowO_nil (fun b h => ⟨h.1, by have := h.2; omega⟩) (fun b h => ⟨by have := h.1; omega, h.2⟩) (fun _ h => h.elim) (fun b h h' => by have := h.2; have := h'.1; omega) (fun _ _ h => h) (fun _ _ h => h)) (fun b h => ⟨by have := h.1; omega, h.2⟩) K3.out P3.out hpl
  ·have TZ1 := TI (by omega)
   have TZ : Hid (((belowD code 2 (lstS code (stS code d) (termD code 1 k1).2).2).1 = 0 → stS code (d + 1) k = (.mk 2 ByteArray.empty (termD code 1 k1).1 (lstS code (stS code d) (termD code 1 k1).2).1 (lstS code (stS code d) (belowD code 2 (lstS code (stS code d) (termD code 1 k1).2).2).2).1, (lstS code (stS code d) (belowD code 2 (lstS code (stS code d) (termD code 1 k1).2).2).2).2)) ∧ (¬ (belowD code 2 (lstS code (stS code d) (termD code 1 k1).2).2).1 = 0 → stS code (d + 1) k = (.mk 2 ByteArray.empty (termD code 1 k1).1 (lstS code (stS code d) (termD code 1 k1).2).1 [], (belowD code 2 (lstS code (stS code d) (termD code 1 k1).2).2).2))) := qh ⟨fun h => by rw [TZ1]; exact ifS_yes h, fun h => by rw [TZ1]; exact ifS_no h⟩
   clear TF TW TI TZ1
   go_wp2_with fail
   refine (spec_l03TermO 1 (by decide) p A c code k1 _ R1.out hl hc K1.out).mono ?_
   rintro e w2 ⟨tk, tn, ts, tA, tm, tc, rfl, t2, k2, kp2⟩
   have T2 := qh t2
   have K2 := qh k2
   have R2 := qh (rd_apart R1.out K1.out kp2)
   have P2 := qh (P1.out.trans kp2 (fun _ _ h => h))
   have X2 := qh (X1.out.keep kp2 (by omega))
   have hs2 := kp2.size
   clear t2 k2 kp2
   generalize termD code 1 k1 = rt at *
   obtain ⟨t, kt⟩ := rt
   simp only at T2 K2 TZ
   go_wp2_with fail
   refine (LL.out p A c code kt _ R2.out hl hc K2.out).mono ?_
   rintro e w3 ⟨bA, bc, rfl, hb1, hb2, row3, k3, kp3⟩
   have B3 := qh row3
   have K3 := qh k3
   have R3 := qh (rd_apart R2.out K2.out kp3)
   have P3 := qh (P2.out.trans kp3 (fun _ _ h => h))
   have T3 := qh (T2.out.keep fun b hb => kp3.block b hb.2 (by have := hb.1; omega))
   have X3 := qh (X2.out.keep kp3 (by omega))
   have hs3 := kp3.size
   clear row3 k3 kp3
   generalize lstS code (stS code d) kt = rl at *
   obtain ⟨bl, kl⟩ := rl
   simp only at B3 K3 TZ hb1
   have P3a := qh (P3.out.alloc (.cells #[.int .i64 2, .string ⟨#[]⟩, .int .i64 tk, .int .i64 tn, .string ts, .slice tA tm tc, .slice bA bl.length bc, .slice none 0 0] 71))
   have BN : Hid (Below w3.heap.size w3 (w3.alloc (.cells #[.int .i64 2, .string ⟨#[]⟩, .int .i64 tk, .int .i64 tn, .string ts, .slice tA tm tc, .slice bA bl.length bc, .slice none 0 0] 71))) := qh (Below.alloc (Below.refl _ _) (Nat.le_refl _) _)
   have N3 : Hid ((w3.alloc (.cells #[.int .i64 2, .string ⟨#[]⟩, .int .i64 tk, .int .i64 tn, .string ts, .slice tA tm tc, .slice bA bl.length bc, .slice none 0 0] 71)).heap[w3.heap.size]? = some (.cells #[.int .i64 2, .string ⟨#[]⟩, .int .i64 tk, .int .i64 tn, .string ts, .slice tA tm tc, .slice bA bl.length bc, .slice none 0 0] 71 (0, 0))) := qh (heap_alloc_new _ _)
   go_wp2_with fail
   obtain ⟨wa, hwa⟩ : ∃ wa, w3.alloc (.cells #[.int .i64 2, .string ⟨#[]⟩, .int .i64 tk, .int .i64 tn, .string ts, .slice tA tm tc, .slice bA bl.length bc, .slice none 0 0] 71) = wa := ⟨_, rfl⟩
   have hsa : wa.heap.size = w3.heap.size + 1 := by rw [← hwa]; simp
   rw [hwa] at P3a BN N3 ⊢
   clear hwa
   refine (spec_l01Once 2 p A c code kl _ (R3.out.below BN.out) hl hc (K3.out.keep BN.out) (by omega)).mono ?_
   rintro e w4 ⟨rfl, k4, kp4⟩
   have K4 := qh k4
   have R4 := qh (rd_apart (R3.out.below BN.out) (K3.out.keep BN.out) kp4)
   have P4 := qh (P3a.out.trans kp4 (fun _ _ h => h))
   have T4 := qh ((T3.out.keep fun b hb => BN.out.block b (by have := hb.2; omega)).keep fun b hb => kp4.block b (by have := hb.2; omega) (by have := hb.1; omega))
   have B4 := qh ((B3.out.keep fun b hb => BN.out.block b hb.2).keep fun b hb => kp4.block b (by have := hb.2; omega) (by have := hb.1; omega))
   have X4 := qh ((X3.out.below BN.out).keep kp4 (by omega))
   have N4 : Hid (w4.heap[w3.heap.size]? = some (.cells #[.int .i64 2, .string ⟨#[]⟩, .int .i64 tk, .int .i64 tn, .string ts, .slice tA tm tc, .slice bA bl.length bc, .slice none 0 0] 71 (0, 0))) := qh ((kp4.block _ (by omega) (by omega)).trans N3.out)
   have hs4 := kp4.size
   clear k4 kp4 N3 P3a BN
   have hb2' := belowD_bd code (n := 2) (by decide) kl
   generalize hx2 : belowD code 2 kl = y2 at *
   obtain ⟨x2, k2'⟩ := y2
   clear hx2
   simp only at K4
   have hg0 : ¬ w.heap.size = w3.heap.size := by omega
   have hg1 : ¬ w3.heap.size = w.heap.size := by omega
   by_cases hz : x2 = 0
   ·subst hz
    have TZ2 := TZ.out.1 rfl
    go_wp2_with fail
    refine (LL.out p A c code k2' _ R4.out hl hc K4.out).mono ?_
    rintro e w5 ⟨eA, ec, rfl, he1, he2, row5, k5, kp5⟩
    have K5 := qh k5
    have P5 := qh (P4.out.trans kp5 (fun _ _ h => h))
    have T5 := qh (T4.out.keep fun b hb => kp5.block b (by have := hb.2; omega) (by have := hb.1; omega))
    have B5 := qh (B4.out.keep fun b hb => kp5.block b (by have := hb.2; omega) (by have := hb.1; omega))
    have E5 := qh row5
    have X5 := qh (X4.out.keep kp5 (by omega))
    have N5 : Hid (w5.heap[w3.heap.size]? = some (.cells #[.int .i64 2, .string ⟨#[]⟩, .int .i64 tk, .int .i64 tn, .string ts, .slice tA tm tc, .slice bA bl.length bc, .slice none 0 0] 71 (0, 0))) := qh ((kp5.block _ (by omega) (by omega)).trans N4.out)
    have hs5 := kp5.size
    clear row5 k5 kp5 T4 B4 X4 N4
    generalize lstS code (stS code d) k2' = re at *
    obtain ⟨el, ke⟩ := re
    simp only at E5 K5 TZ2 he1
    have TZ3 := qh TZ2
    clear TZ2 TZ
    obtain ⟨⟨a0, a1, a2, a3, a4, a5, a6, a7⟩, b0, b1, b2, b3, b4, b5, b6, b7⟩ := cells8D N5.out
    obtain ⟨⟨c0, c1, c2, c3, c4, c5, c6, c7⟩, f0, f1, f2, f3, f4, f5, f6, f7⟩ := cells8D X5.out.at'
    have HG0 : Hid (w.heap.size < w3.heap.size) := qh (by omega)
    generalize hg6 : w3.heap.size = g6 at *
    generalize hgz : w.heap.size = g0 at *
    have HGZ := qh hgz
    have HG6 := qh hg6
    clear hgz hg6
    go_wp2_with fail
    have K6 : CurAt (w5.setCell ⟨g6, 7, none⟩ (.slice eA el.length ec)) p A c code ke := K5.out.setNew (a := ⟨g6, 7, none⟩) (by show g6 ≠ p; omega) _
    have P6 : Keep (fun b => b ≠ p) w (w5.setCell ⟨g6, 7, none⟩ (.slice eA el.length ec)) := (P5.out.fresh.setNew (a := ⟨g6, 7, none⟩) (by show w.heap.size ≤ g6; have := HGZ.out; omega) _).old (Nat.le_refl _)
    have T6 := T5.out.set (p := ⟨g6, 7, none⟩) (fun h => by have h2 : g6 < _ := h.2; have := HG6.out; omega) (.slice eA el.length ec)
    have B6 := B5.out.set (p := ⟨g6, 7, none⟩) (fun h => by have h2 : g6 < _ := h.2; have := HG6.out; omega) (.slice eA el.length ec)
    have E6 := E5.out.set (p := ⟨g6, 7, none⟩) (fun h => by have h2 : _ ≤ g6 := h.1; have := HG6.out; omega) (.slice eA el.length ec)
    have Z6 : (w5.setCell ⟨g6, 7, none⟩ (.slice eA el.length ec)).heap.size = w5.heap.size := by simp
    have X6 : BoxS (w5.setCell ⟨g6, 7, none⟩ (.slice eA el.length ec)) g0 := ⟨(Below.heap_setCell _ ⟨g6, 7, none⟩ _ g0 (by show g0 ≠ g6; exact hg0)).trans X5.out.at'⟩
    generalize w5.setCell ⟨g6, 7, none⟩ (.slice eA el.length ec) = w6 at *
    clear c0 c1 c2 c3 c4 c5 c6 c7 f0 f1 f2 f3 f4 f5 f6 f7
    obtain ⟨⟨c0, c1, c2, c3, c4, c5, c6, c7⟩, f0, f1, f2, f3, f4, f5, f6, f7⟩ := cells8D X6.at'
    refine bodyPost_ret (v := .agg #[.int .i64 2, .string ⟨#[]⟩, .int .i64 tk, .int .i64 tn, .string ts, .slice tA tm tc, .slice bA bl.length bc, .slice eA el.length ec]) (by simp [results, Tryz.results71, go_sem, c0, c1, c2, c3, c4, c5, c6, c7]) rfl ?_
    rw [TZ3.out]
    have hg6 := HG6.out
    exact fin8 (F := fun b => w1.heap.size ≤ b ∧ b < w6.heap.size) ⟨2, ⟨#[]⟩, tk, tn, ts, tA, tm, tc, bA, bl.length, bc, eA, el.length, ec⟩ HGZ.out (StO.mk' (T := Made w1 w2) (B := Made w2 w3) (E := Made w4 w5) (x := ⟨2, ⟨#[]⟩, tk, tn, ts, tA, tm, tc, bA, bl.length, bc, eA, el.length, ec⟩) (show i64in 2 by unfold i64in; omega) (Nat.zero_le _) T6 rfl hb1 hb2 B6 rfl he1 he2 E6 (fun b h => ⟨h.1, by have := h.2; omega⟩) (fun b h => ⟨by have := h.1; omega, by have := h.2; omega⟩) (fun b h => ⟨by have := h.1; omega, by have := h.2; omega⟩) (fun b h h' => by have := h.2; have := h'.1; omega) (fun b h h' => by have := h.2; have := h'.1; omega) (fun b h h' => by have := h.2; have := h'.1; omega)) (fun b h => ⟨by have := h.1; omega, h.2⟩) K6 P6 hpl
   ·have TZ3 := qh (TZ.out.2 hz)
    clear TZ
    have hz2 : (x2 == 0) = false := beq_eq_false_iff_ne.2 hz
    obtain ⟨⟨a0, a1, a2, a3, a4, a5, a6, a7⟩, b0, b1, b2, b3, b4, b5, b6, b7⟩ := cells8D N4.out
    obtain ⟨⟨c0, c1, c2, c3, c4, c5, c6, c7⟩, f0, f1, f2, f3, f4, f5, f6, f7⟩ := cells8D X4.out.at'
    go_wp2_with fail
    refine bodyPost_ret (v := .agg #[.int .i64 2, .string ⟨#[]⟩, .int .i64 tk, .int .i64 tn, .string ts, .slice tA tm tc, .slice bA bl.length bc, .slice none 0 0]) (by simp [results, Tryz.results71, go_sem, c0, c1, c2, c3, c4, c5, c6, c7]) rfl ?_
    rw [TZ3.out]
    exact fin8 (F := fun b => w1.heap.size ≤ b ∧ b < w3.heap.size) ⟨2, ⟨#[]⟩, tk, tn, ts, tA, tm, tc, bA, bl.length, bc, none, 0, 0⟩ rfl (StO.mk' (T := Made w1 w2) (B := Made w2 w3) (E := fun _ => False) (x := ⟨2, ⟨#[]⟩, tk, tn, ts, tA, tm, tc, bA, bl.length, bc, none, 0, 0⟩) (show i64in 2 by unfold i64in; omega) (Nat.zero_le _) T4.out rfl hb1 hb2 B4.out rfl (Nat.le_refl _) (Nat.zero_le _) stRowO_nil (fun b h => ⟨h.1, by have := h.2; omega⟩) (fun b h => ⟨by have := h.1; omega, h.2⟩) (fun _ h => h.elim) (fun b h h' => by have := h.2; have := h'.1; omega) (fun _ _ h => h) (fun _ _ h => h)) (fun b h => ⟨by have := h.1; omega, by have := h.2; omega⟩) K4.out P4.out hpl
theorem spec_l04List_of (d : Nat) (hd : d ≤ 100) (ih : DsC d) : DlC d := by
 intro p A c code k w rd hl hc hk
 have RD := qh rd
 have HK := qh hk
 have IH := qh ih
 have hpl := lt_of_block hk.at'
 clear rd hk ih
 go_enter Tryz.func39, Tryz.ntmps39
 go_wp2_with fail
 go_loopw [5, 6] (fun v i wr => ∃ (acc : List St) (kc : Cur), acc.length ≤ 3 ∧ i = .int .i64 (acc.length : Int) ∧ Hid (GrwO w.heap.size wr v acc ∧ CurAt wr p A c code kc ∧ Keep (fun b => b ≠ p) w wr ∧ Rd wr 1 A code.length (bv code) ∧ listS code (stS code d) (3 - acc.length) acc.length acc kc = lstS code (stS code d) k)) (fun _ i _ => 4 - (intOf i).toNat)
 case atStart => exact ⟨[], k, by simp, rfl, qh ⟨GrwO.empty (Nat.le_refl _), HK.out.keep zB, Keep.alloc (Keep.refl _ _) _, RD.out.alloc _, rfl⟩⟩
 case round =>
  obtain ⟨acc, kc, hj, rfl, HR⟩ := hrel
  obtain ⟨hgr, hcu, hkp, hrd, hls⟩ := HR.out
  obtain ⟨A', c', rfl, hc1, hc2⟩ := hgr.slice
  have GR := qh hgr
  have CU := qh hcu
  have KP := qh hkp
  have RR := qh hrd
  have hsz := hkp.size
  have hb := belowD_bd code (n := 4) (by decide) kc
  have LS := qh hls
  clear hgr hcu hkp hrd hls HR
  go_wp2_with fail
  refine (spec_l01Below 4 p A c code kc _ RR.out hl hc CU.out (by omega)).mono ?_
  rintro e w1 ⟨rfl, k1, kp1⟩
  have K1 := qh k1
  have P1 := qh (KP.out.trans kp1 (fun _ _ h => h))
  have R1 := qh (rd_apart RR.out CU.out kp1)
  have G1 := qh (GR.out.keep kp1 (fun b hb _ => by omega))
  have hs1 := kp1.size
  have SM := qh (@listS_more code (stS code d) (3 - (acc.length + 1)) acc.length acc kc)
  have SP := qh (@listS_stop code (stS code d) (3 - acc.length) acc.length acc kc)
  clear k1 kp1 GR KP RR CU
  generalize belowD code 4 kc = y at *
  obtain ⟨x, k1⟩ := y
  simp only at hb K1
  by_cases hlt : (acc.length : Int) < x
  ·have hj3 : 3 - (acc.length + 1) + 1 = 3 - acc.length := by omega
   have LM : Hid (listS code (stS code d) (3 - (acc.length + 1)) (acc.length + 1) (acc ++ [(stS code d k1).1]) (stS code d k1).2 = lstS code (stS code d) k) := qh (by
    have h1 := SM.out hlt
    rw [hj3] at h1
    rw [← LS.out]; exact h1.symm)
   clear SM SP LS hj3
   go_wp2_with fail
   refine (IH.out p A c code k1 _ R1.out hl hc K1.out).mono ?_
   rintro e w2 ⟨xx, rfl, t2, k2, kp2⟩
   have T2 := qh t2
   have K2 := qh k2
   have R2 := qh (rd_apart R1.out K1.out kp2)
   have P2 := qh (P1.out.trans kp2 (fun _ _ h => h))
   have Q2 := qh kp2
   have hs2 := kp2.size
   clear t2 k2 kp2
   obtain ⟨xs, G, hxl, ow, hG, hd, hx⟩ := G1.out
   have OW := qh (ow.keep Q2.out (fun b hb => by have := (ow.lt b hb).1; omega)).own
   have OX := qh ow
   have HX := qh (And.intro hxl (And.intro hG (And.intro hd hx)))
   clear ow hxl hG hd hx
   go_wp2_with (at_builtin; refine wpList_appG_new w2.heap.size rfl rfl _ _ _ rfl sgT OW.out _ 1 rfl rfl rfl (by simp [Value.oneCell']) (by simp only [maxLen]; omega) (by omega) ?_; intro v3 w3 own3 gr3)
   have GN : Hid (GrwO w.heap.size w3 v3 (acc ++ [(stS code d k1).1])) := qh (grw_app (S := fun b => b ≠ p) HX.out.1 OX.out HX.out.2.1 HX.out.2.2.1 HX.out.2.2.2 Q2.out (fun b hb _ => by omega) T2.out own3 gr3)
   have OKB : Hid (∀ b, b < w.heap.size → (.slice A' acc.length c' : Value).ownBlock ≠ some b) := qh fun b hb e => by have := OX.out.lt b e; omega
   have BG : Hid (Keep (fun b => b < w.heap.size) w2 w3) := qh (gr3.keep.mono fun b _ hb => OKB.out b hb)
   have K3 : Hid (CurAt w3 p A c code (stS code d k1).2) := qh ⟨(BG.out.block p (lt_of_block K2.out.at') hpl).trans K2.out.at', K2.out.le⟩
   have P3 : Hid (Keep (fun b => b ≠ p) w w3) := qh (P2.out.trans BG.out (fun b hb _ => hb))
   clear own3 gr3
   go_wp2_with fail
   go_roundw
   case rel => exact ⟨acc ++ [(stS code d k1).1], (stS code d k1).2, by simp; omega, by simp, qh ⟨GN.out, K3.out, P3.out, rd_apart RD.out HK.out P3.out, by rw [List.length_append]; exact LM.out⟩⟩
   case measure => simp [intOf]; omega
  ·have LE : Hid ((acc, k1) = lstS code (stS code d) k) := qh (by rw [← LS.out]; exact (SP.out hlt).symm)
   clear SM SP LS
   go_wp2_with fail
   go_ret
   rw [← LE.out]
   exact ⟨A', c', rfl, hc1, hc2, G1.out.row, K1.out, P1.out⟩
theorem spec_l04Stmt (d : Nat) : d ≤ 100 → DsC d := by
 induction d with
 | zero => intro _; exact spec_l04Stmt_zero
 | succ d ih => intro hd; exact spec_l04Stmt_succ d hd (spec_l04List_of d (by omega) (ih (by omega)))
end Go.Proofs.YtnmblfonmfjoeaaGreatDoor
