/- Lemmas for the row. -/
import Derived.Test.YtnmblfonmfjoeaaGreatDoorKc24
namespace Go.Proofs.YtnmblfonmfjoeaaGreatDoor
open Go.RowKit
set_option maxHeartbeats 3200000
set_option maxRecDepth 100000
set_option linter.unusedVariables false
theorem in_litC {x a b : Int} {r : Bool} (h : inB x a b = r) (w : World) : Calls Tryz.prog 35 #[.int .i64 x, .int .i64 a, .int .i64 b] w fun e w' => e = .returned (.bool r) ∧ w = w' := by
 subst h
 exact spec_l01In x a b w
theorem ins_tot {p : Cd} {j : Nat} (hj : j < p.ins.length) (h : totCd p ≤ 1048576) : totT p.ins[j].term ≤ 1048576 := by
 have := totIs_le (List.getElem_mem hj)
 simp only [totCd] at h
 omega
theorem zero_is (w : World) : TmIs AnyB w [.int .i64 0, .int .i64 0, .string ByteArray.empty, .slice none 0 0] zeroTm :=
 TmIs.mk' (k := 0) (n := 0) (s := ByteArray.empty) (A := none) (c := 0) (kids := []) (by unfold i64in; omega) (by unfold i64in; omega) (by simp [maxLen]) (Nat.le_refl _) (by simp [maxLen]) ⟨[], Rd.nil, fun _ _ _ _ => trivial, fun k h => absurd h (by simp)⟩
theorem proc_at {p : Cd} (h : HeadOk p) {j : Nat} (hj : j < p.ins.length) : ∃ pn : Nat, pn < p.entry.length ∧ procE p.entry j p.entry.length = (pn : Int) := by
 have rise := h.ent.rise
 rw [opsC_len] at rise
 obtain ⟨i, h0, h1, h2⟩ := proc_ex h.ent.zero (n := p.ins.length) (a := (j : Int)) (by omega) (by omega)
 exact ⟨i, h0, procE_in rise h0 h1 h2⟩
theorem head_nn {p : Cd} (h : HeadOk p) : ∀ i, i < p.entry.length → 0 ≤ p.entry.getD i 0 := ent_nat h.ent.zero h.ent.rise
theorem spec_l08Ins_1 (p : Cd) (x : V5) (w : World) (hp : CdIs w x p) (j : Nat) (hj : j < p.ins.length) (hop : p.ins[j].op = 1) (htot : totCd p ≤ 1048576) (hh : HeadOk p) :
  Calls Tryz.prog 66 #[x.val p, .int .i64 (j : Int)] w fun e w' => e = .returned (.bool (insB p p.ins[j] (bE p j) (lE p j))) ∧ Below w.heap.size w w' := by
 obtain ⟨gA, gc, lA, lc, pA, pc, eA, ec, iA, ic⟩ := x
 have htt := ins_tot hj htot
 have HN := qh (head_nn hh)
 obtain ⟨pn, hpn, hpe⟩ := proc_at hh hj
 have HPn := qh hpe
 obtain ⟨b, off, ⟨yo, ya, yk, yn, ys, yA, ym, yc, yt⟩, e1, _, ⟨d0, d1, d2, d3, d4, d5, d6⟩, hI⟩ := rd_ins hp.i3 hj
 simp only at e1 d0 d1 d2 d3 d4 d5 d6
 subst e1
 have HP := qh hp
 have hgl := hp.g1
 have hgc := hp.g2
 have hll := hp.l1
 have hlc := hp.l2
 have hpl := hp.p1
 have hpc := hp.p2
 have hel := hp.e1
 have hec := hp.e2
 have hil := hp.i1
 have hic := hp.i2
 simp only at hgl hgc hll hlc hpl hpc hel hec hil hic
 unfold maxLen at hgc hlc hpc hec hic
 clear hp htot hh hpe
 generalize hi : p.ins[j] = i at *
 obtain ⟨ho, ha, hto, _, _, _, hT⟩ := hI
 simp only [V7.term] at ho ha hto hT
 have HT := qh hT
 have hbl := cell_lt d0
 simp only at hbl
 have hnd : nodes i.term ≤ 10000000 := by have := nodes_tot i.term; omega
 have h0j : (0 : Int) ≤ (j : Int) := by omega
 have h1j : (j : Int) < (p.ins.length : Int) := by omega
 clear hT hi htt
 subst ha hto
 unfold V5.val
 simp only
 have hm : mostC p i.op = ((p.globals.length : Int) - 1) := by rw [hop]; rfl
 have hopH := qh hop
 rw [hop] at ho
 subst ho
 have q1 : inB 1 1 9 = true := rfl
 have Q1 : Hid (inB i.op 1 9 = true) := qh (by rw [hop]; rfl)
 clear hop
 cases q2 : inB i.arg 0 ((p.globals.length : Int) - 1) with
 | false =>
  have F : Hid (insB p i (bE p j) (lE p j) = false) := qh (insB_arg (by rw [hm]; exact q2))
  clear hm
  go_enter Tryz.func66, Tryz.ntmps66
  go_wp2_with (go_at_call 35; first | ((with_reducible refine (in_litC q1 _).mono ?_); rintro e w' ⟨rfl, rfl⟩) | ((with_reducible refine (in_litC q2 _).mono ?_); rintro e w' ⟨rfl, rfl⟩))
  go_ret
  exact ⟨ret_bool F.out.symm, zB⟩
 | true =>
 have Q2 : Hid (inB i.arg 0 (mostC p i.op) = true) := qh (by rw [hm]; exact q2)
 have BX0 : Hid (Box5 (w.alloc (.cells #[.slice gA p.globals.length gc, .slice lA p.locks.length lc, .slice pA p.procs.length pc, .slice eA p.entry.length ec, .slice (some ⟨b, off, none⟩) p.ins.length ic] 32)) w.heap.size ⟨gA, gc, lA, lc, pA, pc, eA, ec, some ⟨b, off, none⟩, ic⟩ p) := qh (Box5.new w ⟨gA, gc, lA, lc, pA, pc, eA, ec, some ⟨b, off, none⟩, ic⟩ p _)
 clear hm
 have CX0 : Hid (Cells7 ((w.alloc (.cells #[.slice gA p.globals.length gc, .slice lA p.locks.length lc, .slice pA p.procs.length pc, .slice eA p.entry.length ec, .slice (some ⟨b, off, none⟩) p.ins.length ic] 32)).alloc (.cells #[.int .i64 1, .int .i64 i.arg, .int .i64 yk, .int .i64 yn, .string ys, .slice yA ym yc, .int .i64 i.to] 45)) (w.heap.size + 1) 0 ⟨1, i.arg, yk, yn, ys, yA, ym, yc, i.to⟩) := qh (by
  have := Cells7.new (w.alloc (.cells #[.slice gA p.globals.length gc, .slice lA p.locks.length lc, .slice pA p.procs.length pc, .slice eA p.entry.length ec, .slice (some ⟨b, off, none⟩) p.ins.length ic] 32)) ⟨1, i.arg, yk, yn, ys, yA, ym, yc, i.to⟩ 45
  rwa [World.size_alloc] at this)
 cases h3 : okT 6 i.term with
 | false =>
  have F : Hid (insB p i (bE p j) (lE p j) = false) := qh (insB_trm (trmB_bad (by rw [hopH.out]; simp) h3))
  go_enter Tryz.func66, Tryz.ntmps66
  go_wp2_with (go_at_call 35; first | ((with_reducible refine (in_litC q1 _).mono ?_); rintro e w' ⟨rfl, rfl⟩) | ((with_reducible refine (in_litC q2 _).mono ?_); rintro e w' ⟨rfl, rfl⟩))
  refine (spec_TermOk i.term yk yn ys yA ym yc _ (HT.out.belowA zB)).mono ?_
  rintro e w1 ⟨rfl, b1⟩
  have BB : Hid (Below w.heap.size w w1) := qh (Below.trans zB (b1.mono (by simp; try omega)))
  have BX := qh (((BX0.out.below (Below.alloc (Below.refl _ _) (Nat.le_refl _) _)).below b1))
  have CX := qh (CX0.out.below b1)
  rw [h3]
  clear b1
  go_wp2_with fail
  go_ret
  exact ⟨ret_bool F.out.symm, BB.out⟩
 | true =>
 have H3 := qh h3
 clear h3
 go_enter Tryz.func66, Tryz.ntmps66
 go_wp2_with (go_at_call 35; first | ((with_reducible refine (in_litC q1 _).mono ?_); rintro e w' ⟨rfl, rfl⟩) | ((with_reducible refine (in_litC q2 _).mono ?_); rintro e w' ⟨rfl, rfl⟩))
 refine (spec_TermOk i.term yk yn ys yA ym yc _ (HT.out.belowA zB)).mono ?_
 rintro e w1 ⟨rfl, b1⟩
 have BB : Hid (Below w.heap.size w w1) := qh (Below.trans zB (b1.mono (by simp; try omega)))
 have BX := qh (((BX0.out.below (Below.alloc (Below.refl _ _) (Nat.le_refl _) _)).below b1))
 have CX := qh (CX0.out.below b1)
 rw [H3.out]
 clear b1 d0 d1 d2 d3 d4 d5 d6
 obtain ⟨p0, p1, p2, p3, p4⟩ := BX.out
 obtain ⟨r0, r1, r2, r3, r4, r5, r6⟩ := CX.out
 simp only at p0 p1 p2 p3 p4 r0 r1 r2 r3 r4 r5 r6
 go_wp2_with fail
 refine (spec_ReadsOf i.term yk yn ys yA ym yc _ (HT.out.belowA BB.out) hnd).mono ?_
 rintro e w2 ⟨v2, rfl, own2⟩
 obtain ⟨A2, c2, rfl, hc2⟩ := own2.slice
 have hm2 := own_cap' own2
 unfold maxLen at hm2
 have RD2 := qh own2.rd
 have B2 := qh (below_then BB.out own2.2)
 have X2 := qh (BX.out.below own2.2)
 have C2 := qh (CX.out.below own2.2)
 clear own2 p0 p1 p2 p3 p4 r0 r1 r2 r3 r4 r5 r6 BB BX CX
 go_wp2_with fail
 go_loopw [8] (fun z wr => ∃ k : Nat, k ≤ (readsR i.term).length ∧ z = .int .i64 k ∧ Hid (Below w2.heap.size w2 wr) ∧ Hid (((readsR i.term).take k).all (hasS p.globals) = true)) (fun z _ => (readsR i.term).length - (intOf z).toNat)
 case atStart => exact ⟨0, Nat.zero_le _, rfl, qh (Below.refl _ _), qh (by simp)⟩
 case round =>
  obtain ⟨k, hk, rfl, HK, HT⟩ := hrel
  have BB := qh (below_then B2.out HK.out)
  have BX := qh (X2.out.below HK.out)
  have CX := qh (C2.out.below HK.out)
  by_cases hlt : k < (readsR i.term).length
  ·obtain ⟨rb, roff, rfl, rcell⟩ := rd_str (RD2.out.below HK.out) hlt
   have h0k : (0 : Int) ≤ (k : Int) := by omega
   have h1k : (k : Int) < ((readsR i.term).length : Int) := by omega
   obtain ⟨p0, _⟩ := BX.out
   simp only at p0
   have GS := qh (HP.out.belowA BB.out).gs
   have RC := qh rcell
   have P0 := qh p0
   cases hh : hasS p.globals (readsR i.term)[k] with
   | false =>
    have F : Hid (insB p i (bE p j) (lE p j) = false) := qh (insB_trm (trmB_miss (by rw [hopH.out]; simp) hlt hh))
    have hpl := place_negC hh
    clear hh
    go_wp2_with fail
    go_region_held3 (fun w' => w'.cell? ⟨w.heap.size, 0, none⟩ = some (.slice gA p.globals.length gc) ∧ w'.cell? ⟨rb, roff + k, none⟩ = some (.string (readsR i.term)[k])) (first | go_keep | exact ⟨P0.out, RC.out⟩)
     ((go_at_call 55; (refine (spec_PlaceOf _ p.globals _ _ (by exact GS.out.below (Below.refl _ _).drew)).mono ?_); rintro e w1 ⟨rfl, rfl⟩))
    go_wp2_with fail
    go_ret
    exact ⟨ret_bool F.out.symm, BB.out.drew⟩
   | true =>
    have T := qh (all_next hlt HT.out hh)
    have hpl := place_pos hh
    clear hh
    go_wp2_with fail
    go_region_held3 (fun w' => w'.cell? ⟨w.heap.size, 0, none⟩ = some (.slice gA p.globals.length gc) ∧ w'.cell? ⟨rb, roff + k, none⟩ = some (.string (readsR i.term)[k])) (first | go_keep | exact ⟨P0.out, RC.out⟩)
     ((go_at_call 55; (refine (spec_PlaceOf _ p.globals _ _ (by exact GS.out.below (Below.refl _ _).drew)).mono ?_); rintro e w1 ⟨rfl, rfl⟩))
    go_wp2_with fail
    go_roundw
    case rel => exact ⟨k + 1, by omega, by go_num, qh (HK.out.drew), T⟩
    case measure => simp [intOf]; omega
  ·have FIN : Hid (insB p i (bE p j) (lE p j) = tgtB i (bE p j) (lE p j)) := qh (insB_fin Q1.out Q2.out (trmB_yes (by rw [hopH.out]; simp) H3.out (by have := HT.out; rwa [List.take_of_length_le (by omega)] at this)))
   clear HT
   obtain ⟨p0, p1, p2, p3, p4⟩ := BX.out
   obtain ⟨r0, r1, r2, r3, r4, r5, r6⟩ := CX.out
   simp only at p0 p1 p2 p3 p4 r0 r1 r2 r3 r4 r5 r6
   go_wp2_with fail
   go_ret
   exact ⟨ret_bool (by rw [FIN.out, tgtB_none (by rw [hopH.out]; simp)]), BB.out⟩
theorem spec_l08Ins_2 (p : Cd) (x : V5) (w : World) (hp : CdIs w x p) (j : Nat) (hj : j < p.ins.length) (hop : p.ins[j].op = 2) (htot : totCd p ≤ 1048576) (hh : HeadOk p) :
  Calls Tryz.prog 66 #[x.val p, .int .i64 (j : Int)] w fun e w' => e = .returned (.bool (insB p p.ins[j] (bE p j) (lE p j))) ∧ Below w.heap.size w w' := by
 obtain ⟨gA, gc, lA, lc, pA, pc, eA, ec, iA, ic⟩ := x
 have htt := ins_tot hj htot
 have HN := qh (head_nn hh)
 obtain ⟨pn, hpn, hpe⟩ := proc_at hh hj
 have HPn := qh hpe
 obtain ⟨b, off, ⟨yo, ya, yk, yn, ys, yA, ym, yc, yt⟩, e1, _, ⟨d0, d1, d2, d3, d4, d5, d6⟩, hI⟩ := rd_ins hp.i3 hj
 simp only at e1 d0 d1 d2 d3 d4 d5 d6
 subst e1
 have HP := qh hp
 have hgl := hp.g1
 have hgc := hp.g2
 have hll := hp.l1
 have hlc := hp.l2
 have hpl := hp.p1
 have hpc := hp.p2
 have hel := hp.e1
 have hec := hp.e2
 have hil := hp.i1
 have hic := hp.i2
 simp only at hgl hgc hll hlc hpl hpc hel hec hil hic
 unfold maxLen at hgc hlc hpc hec hic
 clear hp htot hh hpe
 generalize hi : p.ins[j] = i at *
 obtain ⟨ho, ha, hto, _, _, _, hT⟩ := hI
 simp only [V7.term] at ho ha hto hT
 have HT := qh hT
 have hbl := cell_lt d0
 simp only at hbl
 have hnd : nodes i.term ≤ 10000000 := by have := nodes_tot i.term; omega
 have h0j : (0 : Int) ≤ (j : Int) := by omega
 have h1j : (j : Int) < (p.ins.length : Int) := by omega
 clear hT hi htt
 subst ha hto
 unfold V5.val
 simp only
 have hm : mostC p i.op = 0 := by rw [hop]; rfl
 have hopH := qh hop
 rw [hop] at ho
 subst ho
 have q1 : inB 2 1 9 = true := rfl
 have Q1 : Hid (inB i.op 1 9 = true) := qh (by rw [hop]; rfl)
 clear hop
 cases q2 : inB i.arg 0 0 with
 | false =>
  have F : Hid (insB p i (bE p j) (lE p j) = false) := qh (insB_arg (by rw [hm]; exact q2))
  clear hm
  go_enter Tryz.func66, Tryz.ntmps66
  go_wp2_with (go_at_call 35; first | ((with_reducible refine (in_litC q1 _).mono ?_); rintro e w' ⟨rfl, rfl⟩) | ((with_reducible refine (in_litC q2 _).mono ?_); rintro e w' ⟨rfl, rfl⟩))
  go_ret
  exact ⟨ret_bool F.out.symm, zB⟩
 | true =>
 have Q2 : Hid (inB i.arg 0 (mostC p i.op) = true) := qh (by rw [hm]; exact q2)
 have BX0 : Hid (Box5 (w.alloc (.cells #[.slice gA p.globals.length gc, .slice lA p.locks.length lc, .slice pA p.procs.length pc, .slice eA p.entry.length ec, .slice (some ⟨b, off, none⟩) p.ins.length ic] 32)) w.heap.size ⟨gA, gc, lA, lc, pA, pc, eA, ec, some ⟨b, off, none⟩, ic⟩ p) := qh (Box5.new w ⟨gA, gc, lA, lc, pA, pc, eA, ec, some ⟨b, off, none⟩, ic⟩ p _)
 clear hm
 have CX0 : Hid (Cells7 ((w.alloc (.cells #[.slice gA p.globals.length gc, .slice lA p.locks.length lc, .slice pA p.procs.length pc, .slice eA p.entry.length ec, .slice (some ⟨b, off, none⟩) p.ins.length ic] 32)).alloc (.cells #[.int .i64 2, .int .i64 i.arg, .int .i64 yk, .int .i64 yn, .string ys, .slice yA ym yc, .int .i64 i.to] 45)) (w.heap.size + 1) 0 ⟨2, i.arg, yk, yn, ys, yA, ym, yc, i.to⟩) := qh (by
  have := Cells7.new (w.alloc (.cells #[.slice gA p.globals.length gc, .slice lA p.locks.length lc, .slice pA p.procs.length pc, .slice eA p.entry.length ec, .slice (some ⟨b, off, none⟩) p.ins.length ic] 32)) ⟨2, i.arg, yk, yn, ys, yA, ym, yc, i.to⟩ 45
  rwa [World.size_alloc] at this)
 cases h3 : okT 6 i.term with
 | false =>
  have F : Hid (insB p i (bE p j) (lE p j) = false) := qh (insB_trm (trmB_bad (by rw [hopH.out]; simp) h3))
  go_enter Tryz.func66, Tryz.ntmps66
  go_wp2_with (go_at_call 35; first | ((with_reducible refine (in_litC q1 _).mono ?_); rintro e w' ⟨rfl, rfl⟩) | ((with_reducible refine (in_litC q2 _).mono ?_); rintro e w' ⟨rfl, rfl⟩))
  refine (spec_TermOk i.term yk yn ys yA ym yc _ (HT.out.belowA zB)).mono ?_
  rintro e w1 ⟨rfl, b1⟩
  have BB : Hid (Below w.heap.size w w1) := qh (Below.trans zB (b1.mono (by simp; try omega)))
  have BX := qh (((BX0.out.below (Below.alloc (Below.refl _ _) (Nat.le_refl _) _)).below b1))
  have CX := qh (CX0.out.below b1)
  rw [h3]
  clear b1
  go_wp2_with fail
  go_ret
  exact ⟨ret_bool F.out.symm, BB.out⟩
 | true =>
 have H3 := qh h3
 clear h3
 go_enter Tryz.func66, Tryz.ntmps66
 go_wp2_with (go_at_call 35; first | ((with_reducible refine (in_litC q1 _).mono ?_); rintro e w' ⟨rfl, rfl⟩) | ((with_reducible refine (in_litC q2 _).mono ?_); rintro e w' ⟨rfl, rfl⟩))
 refine (spec_TermOk i.term yk yn ys yA ym yc _ (HT.out.belowA zB)).mono ?_
 rintro e w1 ⟨rfl, b1⟩
 have BB : Hid (Below w.heap.size w w1) := qh (Below.trans zB (b1.mono (by simp; try omega)))
 have BX := qh (((BX0.out.below (Below.alloc (Below.refl _ _) (Nat.le_refl _) _)).below b1))
 have CX := qh (CX0.out.below b1)
 rw [H3.out]
 clear b1 d0 d1 d2 d3 d4 d5 d6
 obtain ⟨p0, p1, p2, p3, p4⟩ := BX.out
 obtain ⟨r0, r1, r2, r3, r4, r5, r6⟩ := CX.out
 simp only at p0 p1 p2 p3 p4 r0 r1 r2 r3 r4 r5 r6
 go_wp2_with fail
 refine (spec_ReadsOf i.term yk yn ys yA ym yc _ (HT.out.belowA BB.out) hnd).mono ?_
 rintro e w2 ⟨v2, rfl, own2⟩
 obtain ⟨A2, c2, rfl, hc2⟩ := own2.slice
 have hm2 := own_cap' own2
 unfold maxLen at hm2
 have RD2 := qh own2.rd
 have B2 := qh (below_then BB.out own2.2)
 have X2 := qh (BX.out.below own2.2)
 have C2 := qh (CX.out.below own2.2)
 clear own2 p0 p1 p2 p3 p4 r0 r1 r2 r3 r4 r5 r6 BB BX CX
 go_wp2_with fail
 go_loopw [8] (fun z wr => ∃ k : Nat, k ≤ (readsR i.term).length ∧ z = .int .i64 k ∧ Hid (Below w2.heap.size w2 wr) ∧ Hid (((readsR i.term).take k).all (hasS p.globals) = true)) (fun z _ => (readsR i.term).length - (intOf z).toNat)
 case atStart => exact ⟨0, Nat.zero_le _, rfl, qh (Below.refl _ _), qh (by simp)⟩
 case round =>
  obtain ⟨k, hk, rfl, HK, HT⟩ := hrel
  have BB := qh (below_then B2.out HK.out)
  have BX := qh (X2.out.below HK.out)
  have CX := qh (C2.out.below HK.out)
  by_cases hlt : k < (readsR i.term).length
  ·obtain ⟨rb, roff, rfl, rcell⟩ := rd_str (RD2.out.below HK.out) hlt
   have h0k : (0 : Int) ≤ (k : Int) := by omega
   have h1k : (k : Int) < ((readsR i.term).length : Int) := by omega
   obtain ⟨p0, _⟩ := BX.out
   simp only at p0
   have GS := qh (HP.out.belowA BB.out).gs
   have RC := qh rcell
   have P0 := qh p0
   cases hh : hasS p.globals (readsR i.term)[k] with
   | false =>
    have F : Hid (insB p i (bE p j) (lE p j) = false) := qh (insB_trm (trmB_miss (by rw [hopH.out]; simp) hlt hh))
    have hpl := place_negC hh
    clear hh
    go_wp2_with fail
    go_region_held3 (fun w' => w'.cell? ⟨w.heap.size, 0, none⟩ = some (.slice gA p.globals.length gc) ∧ w'.cell? ⟨rb, roff + k, none⟩ = some (.string (readsR i.term)[k])) (first | go_keep | exact ⟨P0.out, RC.out⟩)
     ((go_at_call 55; (refine (spec_PlaceOf _ p.globals _ _ (by exact GS.out.below (Below.refl _ _).drew)).mono ?_); rintro e w1 ⟨rfl, rfl⟩))
    go_wp2_with fail
    go_ret
    exact ⟨ret_bool F.out.symm, BB.out.drew⟩
   | true =>
    have T := qh (all_next hlt HT.out hh)
    have hpl := place_pos hh
    clear hh
    go_wp2_with fail
    go_region_held3 (fun w' => w'.cell? ⟨w.heap.size, 0, none⟩ = some (.slice gA p.globals.length gc) ∧ w'.cell? ⟨rb, roff + k, none⟩ = some (.string (readsR i.term)[k])) (first | go_keep | exact ⟨P0.out, RC.out⟩)
     ((go_at_call 55; (refine (spec_PlaceOf _ p.globals _ _ (by exact GS.out.below (Below.refl _ _).drew)).mono ?_); rintro e w1 ⟨rfl, rfl⟩))
    go_wp2_with fail
    go_roundw
    case rel => exact ⟨k + 1, by omega, by go_num, qh (HK.out.drew), T⟩
    case measure => simp [intOf]; omega
  ·have FIN : Hid (insB p i (bE p j) (lE p j) = tgtB i (bE p j) (lE p j)) := qh (insB_fin Q1.out Q2.out (trmB_yes (by rw [hopH.out]; simp) H3.out (by have := HT.out; rwa [List.take_of_length_le (by omega)] at this)))
   clear HT
   obtain ⟨p0, p1, p2, p3, p4⟩ := BX.out
   obtain ⟨r0, r1, r2, r3, r4, r5, r6⟩ := CX.out
   simp only at p0 p1 p2 p3 p4 r0 r1 r2 r3 r4 r5 r6
   go_wp2_with fail
   refine (spec_l08Proc p ⟨gA, gc, lA, lc, pA, pc, eA, ec, some ⟨b, off, none⟩, ic⟩ _ (HP.out.belowA BB.out) (j : Int)).mono ?_
   rintro e w9 ⟨rfl, b9⟩
   rw [HPn.out]
   have BX9 := qh (BX.out.below b9)
   have CX9 := qh (CX.out.below b9)
   have BB9 := qh (below_then BB.out b9)
   clear b9 p0 p1 p2 p3 p4 r0 r1 r2 r3 r4 r5 r6
   obtain ⟨eb, eoff, e1, ecell⟩ := rd_int (HP.out.belowA BB9.out).e3 hpn
   simp only at e1
   subst e1
   have EC := qh ecell
   clear ecell
   obtain ⟨p0, p1, p2, p3, p4⟩ := BX9.out
   simp only at p0 p1 p2 p3 p4
   have h1n : (0 : Int) ≤ (pn : Int) := by omega
   have h2n : (pn : Int) < (p.entry.length : Int) := by omega
   go_wp2_with fail
   clear p0 p1 p2 p3 p4
   refine wp_region_later (by kernel_rfl) (by kernel_rfl) ?_
   intro gw hgw hcw
   have HG := qh hgw
   have HC := qh hcw
   clear hgw hcw
   have P := qh (fun n => BX9.out.below (HG.out n))
   have C := qh (fun n => CX9.out.below (HG.out n))
   have p0 : ∀ n, (gw n).cell? ⟨w.heap.size, 0, none⟩ = some (.slice gA p.globals.length gc) := fun n => (P.out n).1
   have p1 : ∀ n, (gw n).cell? ⟨w.heap.size, 1, none⟩ = some (.slice lA p.locks.length lc) := fun n => (P.out n).2.1
   have p2 : ∀ n, (gw n).cell? ⟨w.heap.size, 2, none⟩ = some (.slice pA p.procs.length pc) := fun n => (P.out n).2.2.1
   have p3 : ∀ n, (gw n).cell? ⟨w.heap.size, 3, none⟩ = some (.slice (some ⟨eb, eoff, none⟩) p.entry.length ec) := fun n => (P.out n).2.2.2.1
   have p4 : ∀ n, (gw n).cell? ⟨w.heap.size, 4, none⟩ = some (.slice (some ⟨b, off, none⟩) p.ins.length ic) := fun n => (P.out n).2.2.2.2
   have r6 : ∀ n, (gw n).cell? ⟨w.heap.size + 1, 6, none⟩ = some (.int .i64 i.to) := fun n => (C.out n).2.2.2.2.2.2
   have ecl : ∀ n, (gw n).cell? ⟨eb, eoff + pn, none⟩ = some (.int .i64 p.entry[pn]) := fun n => cell_keep (HG.out n) EC.out
   repeat (go_big_quiet_step ((first | (go_at_call 90; exact later_of HC (spec_l08End p ⟨gA, gc, lA, lc, pA, pc, some ⟨eb, eoff, none⟩, ec, some ⟨b, off, none⟩, ic⟩ _ ((HP.out.belowA BB9.out).belowA (HG.out _)) _ (by omega) (by omega) HN.out)) | (go_at_call 35; exact later_same (spec_l01In _ _ _ _)))))
   refine wpQuiet_nil ?_
   intro _ hw'
   obtain ⟨nq, hw''⟩ := hw'
   subst hw''
   go_wp2_with fail
   go_ret
   exact ⟨ret_bool (by rw [FIN.out, tgtB_jump (by rw [hopH.out]; simp), bE, lE, HPn.out, Int.toNat_natCast, getD_get hpn]), below_then BB9.out (HG.out _)⟩
theorem spec_l08Ins_3 (p : Cd) (x : V5) (w : World) (hp : CdIs w x p) (j : Nat) (hj : j < p.ins.length) (hop : p.ins[j].op = 3) (htot : totCd p ≤ 1048576) (hh : HeadOk p) :
  Calls Tryz.prog 66 #[x.val p, .int .i64 (j : Int)] w fun e w' => e = .returned (.bool (insB p p.ins[j] (bE p j) (lE p j))) ∧ Below w.heap.size w w' := by
 obtain ⟨gA, gc, lA, lc, pA, pc, eA, ec, iA, ic⟩ := x
 have htt := ins_tot hj htot
 have HN := qh (head_nn hh)
 obtain ⟨pn, hpn, hpe⟩ := proc_at hh hj
 have HPn := qh hpe
 obtain ⟨b, off, ⟨yo, ya, yk, yn, ys, yA, ym, yc, yt⟩, e1, _, ⟨d0, d1, d2, d3, d4, d5, d6⟩, hI⟩ := rd_ins hp.i3 hj
 simp only at e1 d0 d1 d2 d3 d4 d5 d6
 subst e1
 have HP := qh hp
 have hgl := hp.g1
 have hgc := hp.g2
 have hll := hp.l1
 have hlc := hp.l2
 have hpl := hp.p1
 have hpc := hp.p2
 have hel := hp.e1
 have hec := hp.e2
 have hil := hp.i1
 have hic := hp.i2
 simp only at hgl hgc hll hlc hpl hpc hel hec hil hic
 unfold maxLen at hgc hlc hpc hec hic
 clear hp htot hh hpe
 generalize hi : p.ins[j] = i at *
 obtain ⟨ho, ha, hto, _, _, _, hT⟩ := hI
 simp only [V7.term] at ho ha hto hT
 have HT := qh hT
 have hbl := cell_lt d0
 simp only at hbl
 have hnd : nodes i.term ≤ 10000000 := by have := nodes_tot i.term; omega
 have h0j : (0 : Int) ≤ (j : Int) := by omega
 have h1j : (j : Int) < (p.ins.length : Int) := by omega
 clear hT hi htt
 subst ha hto
 unfold V5.val
 simp only
 have hm : mostC p i.op = 0 := by rw [hop]; rfl
 have hopH := qh hop
 rw [hop] at ho
 subst ho
 have q1 : inB 3 1 9 = true := rfl
 have Q1 : Hid (inB i.op 1 9 = true) := qh (by rw [hop]; rfl)
 clear hop
 cases q2 : inB i.arg 0 0 with
 | false =>
  have F : Hid (insB p i (bE p j) (lE p j) = false) := qh (insB_arg (by rw [hm]; exact q2))
  clear hm
  go_enter Tryz.func66, Tryz.ntmps66
  go_wp2_with (go_at_call 35; first | ((with_reducible refine (in_litC q1 _).mono ?_); rintro e w' ⟨rfl, rfl⟩) | ((with_reducible refine (in_litC q2 _).mono ?_); rintro e w' ⟨rfl, rfl⟩))
  go_ret
  exact ⟨ret_bool F.out.symm, zB⟩
 | true =>
 have Q2 : Hid (inB i.arg 0 (mostC p i.op) = true) := qh (by rw [hm]; exact q2)
 have BX0 : Hid (Box5 (w.alloc (.cells #[.slice gA p.globals.length gc, .slice lA p.locks.length lc, .slice pA p.procs.length pc, .slice eA p.entry.length ec, .slice (some ⟨b, off, none⟩) p.ins.length ic] 32)) w.heap.size ⟨gA, gc, lA, lc, pA, pc, eA, ec, some ⟨b, off, none⟩, ic⟩ p) := qh (Box5.new w ⟨gA, gc, lA, lc, pA, pc, eA, ec, some ⟨b, off, none⟩, ic⟩ p _)
 clear hm
 have CX0 : Hid (Cells7 ((w.alloc (.cells #[.slice gA p.globals.length gc, .slice lA p.locks.length lc, .slice pA p.procs.length pc, .slice eA p.entry.length ec, .slice (some ⟨b, off, none⟩) p.ins.length ic] 32)).alloc (.cells #[.int .i64 3, .int .i64 i.arg, .int .i64 yk, .int .i64 yn, .string ys, .slice yA ym yc, .int .i64 i.to] 45)) (w.heap.size + 1) 0 ⟨3, i.arg, yk, yn, ys, yA, ym, yc, i.to⟩) := qh (by
  have := Cells7.new (w.alloc (.cells #[.slice gA p.globals.length gc, .slice lA p.locks.length lc, .slice pA p.procs.length pc, .slice eA p.entry.length ec, .slice (some ⟨b, off, none⟩) p.ins.length ic] 32)) ⟨3, i.arg, yk, yn, ys, yA, ym, yc, i.to⟩ 45
  rwa [World.size_alloc] at this)
 cases h3 : sameB i.term zeroTm with
 | false =>
  have F : Hid (insB p i (bE p j) (lE p j) = false) := qh (insB_trm (by rw [trmB_zero (by rw [hopH.out]; simp)]; exact h3))
  go_enter Tryz.func66, Tryz.ntmps66
  go_wp2_with (go_at_call 35; first | ((with_reducible refine (in_litC q1 _).mono ?_); rintro e w' ⟨rfl, rfl⟩) | ((with_reducible refine (in_litC q2 _).mono ?_); rintro e w' ⟨rfl, rfl⟩))
  refine (spec_SameTerm i.term zeroTm yk yn ys yA ym yc 0 0 ByteArray.empty none 0 0 _ (HT.out.belowA zB) (zero_is _)).mono ?_
  rintro e w1 ⟨rfl, b1⟩
  have BB : Hid (Below w.heap.size w w1) := qh (Below.trans zB (b1.mono (by simp; try omega)))
  have BX := qh (((BX0.out.below (Below.alloc (Below.refl _ _) (Nat.le_refl _) _)).below b1))
  have CX := qh (CX0.out.below b1)
  rw [h3]
  clear b1
  go_wp2_with fail
  go_ret
  exact ⟨ret_bool F.out.symm, BB.out⟩
 | true =>
 have FIN : Hid (insB p i (bE p j) (lE p j) = tgtB i (bE p j) (lE p j)) := qh (insB_fin Q1.out Q2.out (by rw [trmB_zero (by rw [hopH.out]; simp)]; exact h3))
 go_enter Tryz.func66, Tryz.ntmps66
 go_wp2_with (go_at_call 35; first | ((with_reducible refine (in_litC q1 _).mono ?_); rintro e w' ⟨rfl, rfl⟩) | ((with_reducible refine (in_litC q2 _).mono ?_); rintro e w' ⟨rfl, rfl⟩))
 refine (spec_SameTerm i.term zeroTm yk yn ys yA ym yc 0 0 ByteArray.empty none 0 0 _ (HT.out.belowA zB) (zero_is _)).mono ?_
 rintro e w1 ⟨rfl, b1⟩
 have BB : Hid (Below w.heap.size w w1) := qh (Below.trans zB (b1.mono (by simp; try omega)))
 have BX := qh (((BX0.out.below (Below.alloc (Below.refl _ _) (Nat.le_refl _) _)).below b1))
 have CX := qh (CX0.out.below b1)
 rw [h3]
 clear b1 h3 d0 d1 d2 d3 d4 d5 d6
 obtain ⟨p0, p1, p2, p3, p4⟩ := BX.out
 obtain ⟨r0, r1, r2, r3, r4, r5, r6⟩ := CX.out
 simp only at p0 p1 p2 p3 p4 r0 r1 r2 r3 r4 r5 r6
 go_wp2_with fail
 refine (spec_l08Proc p ⟨gA, gc, lA, lc, pA, pc, eA, ec, some ⟨b, off, none⟩, ic⟩ _ (HP.out.belowA BB.out) (j : Int)).mono ?_
 rintro e w9 ⟨rfl, b9⟩
 rw [HPn.out]
 have BX9 := qh (BX.out.below b9)
 have CX9 := qh (CX.out.below b9)
 have BB9 := qh (below_then BB.out b9)
 clear b9 p0 p1 p2 p3 p4 r0 r1 r2 r3 r4 r5 r6
 obtain ⟨eb, eoff, e1, ecell⟩ := rd_int (HP.out.belowA BB9.out).e3 hpn
 simp only at e1
 subst e1
 have EC := qh ecell
 clear ecell
 obtain ⟨p0, p1, p2, p3, p4⟩ := BX9.out
 simp only at p0 p1 p2 p3 p4
 have h1n : (0 : Int) ≤ (pn : Int) := by omega
 have h2n : (pn : Int) < (p.entry.length : Int) := by omega
 go_wp2_with fail
 clear p0 p1 p2 p3 p4
 refine wp_region_later (by kernel_rfl) (by kernel_rfl) ?_
 intro gw hgw hcw
 have HG := qh hgw
 have HC := qh hcw
 clear hgw hcw
 have P := qh (fun n => BX9.out.below (HG.out n))
 have C := qh (fun n => CX9.out.below (HG.out n))
 have p0 : ∀ n, (gw n).cell? ⟨w.heap.size, 0, none⟩ = some (.slice gA p.globals.length gc) := fun n => (P.out n).1
 have p1 : ∀ n, (gw n).cell? ⟨w.heap.size, 1, none⟩ = some (.slice lA p.locks.length lc) := fun n => (P.out n).2.1
 have p2 : ∀ n, (gw n).cell? ⟨w.heap.size, 2, none⟩ = some (.slice pA p.procs.length pc) := fun n => (P.out n).2.2.1
 have p3 : ∀ n, (gw n).cell? ⟨w.heap.size, 3, none⟩ = some (.slice (some ⟨eb, eoff, none⟩) p.entry.length ec) := fun n => (P.out n).2.2.2.1
 have p4 : ∀ n, (gw n).cell? ⟨w.heap.size, 4, none⟩ = some (.slice (some ⟨b, off, none⟩) p.ins.length ic) := fun n => (P.out n).2.2.2.2
 have r6 : ∀ n, (gw n).cell? ⟨w.heap.size + 1, 6, none⟩ = some (.int .i64 i.to) := fun n => (C.out n).2.2.2.2.2.2
 have ecl : ∀ n, (gw n).cell? ⟨eb, eoff + pn, none⟩ = some (.int .i64 p.entry[pn]) := fun n => cell_keep (HG.out n) EC.out
 repeat (go_big_quiet_step ((first | (go_at_call 90; exact later_of HC (spec_l08End p ⟨gA, gc, lA, lc, pA, pc, some ⟨eb, eoff, none⟩, ec, some ⟨b, off, none⟩, ic⟩ _ ((HP.out.belowA BB9.out).belowA (HG.out _)) _ (by omega) (by omega) HN.out)) | (go_at_call 35; exact later_same (spec_l01In _ _ _ _)))))
 refine wpQuiet_nil ?_
 intro _ hw'
 obtain ⟨nq, hw''⟩ := hw'
 subst hw''
 go_wp2_with fail
 go_ret
 exact ⟨ret_bool (by rw [FIN.out, tgtB_jump (by rw [hopH.out]; simp), bE, lE, HPn.out, Int.toNat_natCast, getD_get hpn]), below_then BB9.out (HG.out _)⟩
theorem spec_l08Ins_4 (p : Cd) (x : V5) (w : World) (hp : CdIs w x p) (j : Nat) (hj : j < p.ins.length) (hop : p.ins[j].op = 4) (htot : totCd p ≤ 1048576) (hh : HeadOk p) :
  Calls Tryz.prog 66 #[x.val p, .int .i64 (j : Int)] w fun e w' => e = .returned (.bool (insB p p.ins[j] (bE p j) (lE p j))) ∧ Below w.heap.size w w' := by
 obtain ⟨gA, gc, lA, lc, pA, pc, eA, ec, iA, ic⟩ := x
 have htt := ins_tot hj htot
 have HN := qh (head_nn hh)
 obtain ⟨pn, hpn, hpe⟩ := proc_at hh hj
 have HPn := qh hpe
 obtain ⟨b, off, ⟨yo, ya, yk, yn, ys, yA, ym, yc, yt⟩, e1, _, ⟨d0, d1, d2, d3, d4, d5, d6⟩, hI⟩ := rd_ins hp.i3 hj
 simp only at e1 d0 d1 d2 d3 d4 d5 d6
 subst e1
 have HP := qh hp
 have hgl := hp.g1
 have hgc := hp.g2
 have hll := hp.l1
 have hlc := hp.l2
 have hpl := hp.p1
 have hpc := hp.p2
 have hel := hp.e1
 have hec := hp.e2
 have hil := hp.i1
 have hic := hp.i2
 simp only at hgl hgc hll hlc hpl hpc hel hec hil hic
 unfold maxLen at hgc hlc hpc hec hic
 clear hp htot hh hpe
 generalize hi : p.ins[j] = i at *
 obtain ⟨ho, ha, hto, _, _, _, hT⟩ := hI
 simp only [V7.term] at ho ha hto hT
 have HT := qh hT
 have hbl := cell_lt d0
 simp only at hbl
 have hnd : nodes i.term ≤ 10000000 := by have := nodes_tot i.term; omega
 have h0j : (0 : Int) ≤ (j : Int) := by omega
 have h1j : (j : Int) < (p.ins.length : Int) := by omega
 clear hT hi htt
 subst ha hto
 unfold V5.val
 simp only
 have hm : mostC p i.op = ((p.procs.length : Int) - 1) := by rw [hop]; rfl
 have hopH := qh hop
 rw [hop] at ho
 subst ho
 have q1 : inB 4 1 9 = true := rfl
 have Q1 : Hid (inB i.op 1 9 = true) := qh (by rw [hop]; rfl)
 clear hop
 cases q2 : inB i.arg 0 ((p.procs.length : Int) - 1) with
 | false =>
  have F : Hid (insB p i (bE p j) (lE p j) = false) := qh (insB_arg (by rw [hm]; exact q2))
  clear hm
  go_enter Tryz.func66, Tryz.ntmps66
  go_wp2_with (go_at_call 35; first | ((with_reducible refine (in_litC q1 _).mono ?_); rintro e w' ⟨rfl, rfl⟩) | ((with_reducible refine (in_litC q2 _).mono ?_); rintro e w' ⟨rfl, rfl⟩))
  go_ret
  exact ⟨ret_bool F.out.symm, zB⟩
 | true =>
 have Q2 : Hid (inB i.arg 0 (mostC p i.op) = true) := qh (by rw [hm]; exact q2)
 have BX0 : Hid (Box5 (w.alloc (.cells #[.slice gA p.globals.length gc, .slice lA p.locks.length lc, .slice pA p.procs.length pc, .slice eA p.entry.length ec, .slice (some ⟨b, off, none⟩) p.ins.length ic] 32)) w.heap.size ⟨gA, gc, lA, lc, pA, pc, eA, ec, some ⟨b, off, none⟩, ic⟩ p) := qh (Box5.new w ⟨gA, gc, lA, lc, pA, pc, eA, ec, some ⟨b, off, none⟩, ic⟩ p _)
 clear hm
 have CX0 : Hid (Cells7 ((w.alloc (.cells #[.slice gA p.globals.length gc, .slice lA p.locks.length lc, .slice pA p.procs.length pc, .slice eA p.entry.length ec, .slice (some ⟨b, off, none⟩) p.ins.length ic] 32)).alloc (.cells #[.int .i64 4, .int .i64 i.arg, .int .i64 yk, .int .i64 yn, .string ys, .slice yA ym yc, .int .i64 i.to] 45)) (w.heap.size + 1) 0 ⟨4, i.arg, yk, yn, ys, yA, ym, yc, i.to⟩) := qh (by
  have := Cells7.new (w.alloc (.cells #[.slice gA p.globals.length gc, .slice lA p.locks.length lc, .slice pA p.procs.length pc, .slice eA p.entry.length ec, .slice (some ⟨b, off, none⟩) p.ins.length ic] 32)) ⟨4, i.arg, yk, yn, ys, yA, ym, yc, i.to⟩ 45
  rwa [World.size_alloc] at this)
 cases h3 : sameB i.term zeroTm with
 | false =>
  have F : Hid (insB p i (bE p j) (lE p j) = false) := qh (insB_trm (by rw [trmB_zero (by rw [hopH.out]; simp)]; exact h3))
  go_enter Tryz.func66, Tryz.ntmps66
  go_wp2_with (go_at_call 35; first | ((with_reducible refine (in_litC q1 _).mono ?_); rintro e w' ⟨rfl, rfl⟩) | ((with_reducible refine (in_litC q2 _).mono ?_); rintro e w' ⟨rfl, rfl⟩))
  refine (spec_SameTerm i.term zeroTm yk yn ys yA ym yc 0 0 ByteArray.empty none 0 0 _ (HT.out.belowA zB) (zero_is _)).mono ?_
  rintro e w1 ⟨rfl, b1⟩
  have BB : Hid (Below w.heap.size w w1) := qh (Below.trans zB (b1.mono (by simp; try omega)))
  have BX := qh (((BX0.out.below (Below.alloc (Below.refl _ _) (Nat.le_refl _) _)).below b1))
  have CX := qh (CX0.out.below b1)
  rw [h3]
  clear b1
  go_wp2_with fail
  go_ret
  exact ⟨ret_bool F.out.symm, BB.out⟩
 | true =>
 have FIN : Hid (insB p i (bE p j) (lE p j) = tgtB i (bE p j) (lE p j)) := qh (insB_fin Q1.out Q2.out (by rw [trmB_zero (by rw [hopH.out]; simp)]; exact h3))
 go_enter Tryz.func66, Tryz.ntmps66
 go_wp2_with (go_at_call 35; first | ((with_reducible refine (in_litC q1 _).mono ?_); rintro e w' ⟨rfl, rfl⟩) | ((with_reducible refine (in_litC q2 _).mono ?_); rintro e w' ⟨rfl, rfl⟩))
 refine (spec_SameTerm i.term zeroTm yk yn ys yA ym yc 0 0 ByteArray.empty none 0 0 _ (HT.out.belowA zB) (zero_is _)).mono ?_
 rintro e w1 ⟨rfl, b1⟩
 have BB : Hid (Below w.heap.size w w1) := qh (Below.trans zB (b1.mono (by simp; try omega)))
 have BX := qh (((BX0.out.below (Below.alloc (Below.refl _ _) (Nat.le_refl _) _)).below b1))
 have CX := qh (CX0.out.below b1)
 rw [h3]
 clear b1 h3 d0 d1 d2 d3 d4 d5 d6
 obtain ⟨p0, p1, p2, p3, p4⟩ := BX.out
 obtain ⟨r0, r1, r2, r3, r4, r5, r6⟩ := CX.out
 simp only at p0 p1 p2 p3 p4 r0 r1 r2 r3 r4 r5 r6
 go_wp2_with fail
 go_ret
 exact ⟨ret_bool (by rw [FIN.out, tgtB_none (by rw [hopH.out]; simp)]), BB.out⟩
theorem spec_l08Ins_5 (p : Cd) (x : V5) (w : World) (hp : CdIs w x p) (j : Nat) (hj : j < p.ins.length) (hop : p.ins[j].op = 5) (htot : totCd p ≤ 1048576) (hh : HeadOk p) :
  Calls Tryz.prog 66 #[x.val p, .int .i64 (j : Int)] w fun e w' => e = .returned (.bool (insB p p.ins[j] (bE p j) (lE p j))) ∧ Below w.heap.size w w' := by
 obtain ⟨gA, gc, lA, lc, pA, pc, eA, ec, iA, ic⟩ := x
 have htt := ins_tot hj htot
 have HN := qh (head_nn hh)
 obtain ⟨pn, hpn, hpe⟩ := proc_at hh hj
 have HPn := qh hpe
 obtain ⟨b, off, ⟨yo, ya, yk, yn, ys, yA, ym, yc, yt⟩, e1, _, ⟨d0, d1, d2, d3, d4, d5, d6⟩, hI⟩ := rd_ins hp.i3 hj
 simp only at e1 d0 d1 d2 d3 d4 d5 d6
 subst e1
 have HP := qh hp
 have hgl := hp.g1
 have hgc := hp.g2
 have hll := hp.l1
 have hlc := hp.l2
 have hpl := hp.p1
 have hpc := hp.p2
 have hel := hp.e1
 have hec := hp.e2
 have hil := hp.i1
 have hic := hp.i2
 simp only at hgl hgc hll hlc hpl hpc hel hec hil hic
 unfold maxLen at hgc hlc hpc hec hic
 clear hp htot hh hpe
 generalize hi : p.ins[j] = i at *
 obtain ⟨ho, ha, hto, _, _, _, hT⟩ := hI
 simp only [V7.term] at ho ha hto hT
 have HT := qh hT
 have hbl := cell_lt d0
 simp only at hbl
 have hnd : nodes i.term ≤ 10000000 := by have := nodes_tot i.term; omega
 have h0j : (0 : Int) ≤ (j : Int) := by omega
 have h1j : (j : Int) < (p.ins.length : Int) := by omega
 clear hT hi htt
 subst ha hto
 unfold V5.val
 simp only
 have hm : mostC p i.op = ((p.procs.length : Int) - 1) := by rw [hop]; rfl
 have hopH := qh hop
 rw [hop] at ho
 subst ho
 have q1 : inB 5 1 9 = true := rfl
 have Q1 : Hid (inB i.op 1 9 = true) := qh (by rw [hop]; rfl)
 clear hop
 cases q2 : inB i.arg 0 ((p.procs.length : Int) - 1) with
 | false =>
  have F : Hid (insB p i (bE p j) (lE p j) = false) := qh (insB_arg (by rw [hm]; exact q2))
  clear hm
  go_enter Tryz.func66, Tryz.ntmps66
  go_wp2_with (go_at_call 35; first | ((with_reducible refine (in_litC q1 _).mono ?_); rintro e w' ⟨rfl, rfl⟩) | ((with_reducible refine (in_litC q2 _).mono ?_); rintro e w' ⟨rfl, rfl⟩))
  go_ret
  exact ⟨ret_bool F.out.symm, zB⟩
 | true =>
 have Q2 : Hid (inB i.arg 0 (mostC p i.op) = true) := qh (by rw [hm]; exact q2)
 have BX0 : Hid (Box5 (w.alloc (.cells #[.slice gA p.globals.length gc, .slice lA p.locks.length lc, .slice pA p.procs.length pc, .slice eA p.entry.length ec, .slice (some ⟨b, off, none⟩) p.ins.length ic] 32)) w.heap.size ⟨gA, gc, lA, lc, pA, pc, eA, ec, some ⟨b, off, none⟩, ic⟩ p) := qh (Box5.new w ⟨gA, gc, lA, lc, pA, pc, eA, ec, some ⟨b, off, none⟩, ic⟩ p _)
 clear hm
 have CX0 : Hid (Cells7 ((w.alloc (.cells #[.slice gA p.globals.length gc, .slice lA p.locks.length lc, .slice pA p.procs.length pc, .slice eA p.entry.length ec, .slice (some ⟨b, off, none⟩) p.ins.length ic] 32)).alloc (.cells #[.int .i64 5, .int .i64 i.arg, .int .i64 yk, .int .i64 yn, .string ys, .slice yA ym yc, .int .i64 i.to] 45)) (w.heap.size + 1) 0 ⟨5, i.arg, yk, yn, ys, yA, ym, yc, i.to⟩) := qh (by
  have := Cells7.new (w.alloc (.cells #[.slice gA p.globals.length gc, .slice lA p.locks.length lc, .slice pA p.procs.length pc, .slice eA p.entry.length ec, .slice (some ⟨b, off, none⟩) p.ins.length ic] 32)) ⟨5, i.arg, yk, yn, ys, yA, ym, yc, i.to⟩ 45
  rwa [World.size_alloc] at this)
 cases h3 : sameB i.term zeroTm with
 | false =>
  have F : Hid (insB p i (bE p j) (lE p j) = false) := qh (insB_trm (by rw [trmB_zero (by rw [hopH.out]; simp)]; exact h3))
  go_enter Tryz.func66, Tryz.ntmps66
  go_wp2_with (go_at_call 35; first | ((with_reducible refine (in_litC q1 _).mono ?_); rintro e w' ⟨rfl, rfl⟩) | ((with_reducible refine (in_litC q2 _).mono ?_); rintro e w' ⟨rfl, rfl⟩))
  refine (spec_SameTerm i.term zeroTm yk yn ys yA ym yc 0 0 ByteArray.empty none 0 0 _ (HT.out.belowA zB) (zero_is _)).mono ?_
  rintro e w1 ⟨rfl, b1⟩
  have BB : Hid (Below w.heap.size w w1) := qh (Below.trans zB (b1.mono (by simp; try omega)))
  have BX := qh (((BX0.out.below (Below.alloc (Below.refl _ _) (Nat.le_refl _) _)).below b1))
  have CX := qh (CX0.out.below b1)
  rw [h3]
  clear b1
  go_wp2_with fail
  go_ret
  exact ⟨ret_bool F.out.symm, BB.out⟩
 | true =>
 have FIN : Hid (insB p i (bE p j) (lE p j) = tgtB i (bE p j) (lE p j)) := qh (insB_fin Q1.out Q2.out (by rw [trmB_zero (by rw [hopH.out]; simp)]; exact h3))
 go_enter Tryz.func66, Tryz.ntmps66
 go_wp2_with (go_at_call 35; first | ((with_reducible refine (in_litC q1 _).mono ?_); rintro e w' ⟨rfl, rfl⟩) | ((with_reducible refine (in_litC q2 _).mono ?_); rintro e w' ⟨rfl, rfl⟩))
 refine (spec_SameTerm i.term zeroTm yk yn ys yA ym yc 0 0 ByteArray.empty none 0 0 _ (HT.out.belowA zB) (zero_is _)).mono ?_
 rintro e w1 ⟨rfl, b1⟩
 have BB : Hid (Below w.heap.size w w1) := qh (Below.trans zB (b1.mono (by simp; try omega)))
 have BX := qh (((BX0.out.below (Below.alloc (Below.refl _ _) (Nat.le_refl _) _)).below b1))
 have CX := qh (CX0.out.below b1)
 rw [h3]
 clear b1 h3 d0 d1 d2 d3 d4 d5 d6
 obtain ⟨p0, p1, p2, p3, p4⟩ := BX.out
 obtain ⟨r0, r1, r2, r3, r4, r5, r6⟩ := CX.out
 simp only at p0 p1 p2 p3 p4 r0 r1 r2 r3 r4 r5 r6
 go_wp2_with fail
 go_ret
 exact ⟨ret_bool (by rw [FIN.out, tgtB_none (by rw [hopH.out]; simp)]), BB.out⟩
theorem spec_l08Ins_6 (p : Cd) (x : V5) (w : World) (hp : CdIs w x p) (j : Nat) (hj : j < p.ins.length) (hop : p.ins[j].op = 6) (htot : totCd p ≤ 1048576) (hh : HeadOk p) :
  Calls Tryz.prog 66 #[x.val p, .int .i64 (j : Int)] w fun e w' => e = .returned (.bool (insB p p.ins[j] (bE p j) (lE p j))) ∧ Below w.heap.size w w' := by
 obtain ⟨gA, gc, lA, lc, pA, pc, eA, ec, iA, ic⟩ := x
 have htt := ins_tot hj htot
 have HN := qh (head_nn hh)
 obtain ⟨pn, hpn, hpe⟩ := proc_at hh hj
 have HPn := qh hpe
 obtain ⟨b, off, ⟨yo, ya, yk, yn, ys, yA, ym, yc, yt⟩, e1, _, ⟨d0, d1, d2, d3, d4, d5, d6⟩, hI⟩ := rd_ins hp.i3 hj
 simp only at e1 d0 d1 d2 d3 d4 d5 d6
 subst e1
 have HP := qh hp
 have hgl := hp.g1
 have hgc := hp.g2
 have hll := hp.l1
 have hlc := hp.l2
 have hpl := hp.p1
 have hpc := hp.p2
 have hel := hp.e1
 have hec := hp.e2
 have hil := hp.i1
 have hic := hp.i2
 simp only at hgl hgc hll hlc hpl hpc hel hec hil hic
 unfold maxLen at hgc hlc hpc hec hic
 clear hp htot hh hpe
 generalize hi : p.ins[j] = i at *
 obtain ⟨ho, ha, hto, _, _, _, hT⟩ := hI
 simp only [V7.term] at ho ha hto hT
 have HT := qh hT
 have hbl := cell_lt d0
 simp only at hbl
 have hnd : nodes i.term ≤ 10000000 := by have := nodes_tot i.term; omega
 have h0j : (0 : Int) ≤ (j : Int) := by omega
 have h1j : (j : Int) < (p.ins.length : Int) := by omega
 clear hT hi htt
 subst ha hto
 unfold V5.val
 simp only
 have hm : mostC p i.op = ((p.locks.length : Int) - 1) := by rw [hop]; rfl
 have hopH := qh hop
 rw [hop] at ho
 subst ho
 have q1 : inB 6 1 9 = true := rfl
 have Q1 : Hid (inB i.op 1 9 = true) := qh (by rw [hop]; rfl)
 clear hop
 cases q2 : inB i.arg 0 ((p.locks.length : Int) - 1) with
 | false =>
  have F : Hid (insB p i (bE p j) (lE p j) = false) := qh (insB_arg (by rw [hm]; exact q2))
  clear hm
  go_enter Tryz.func66, Tryz.ntmps66
  go_wp2_with (go_at_call 35; first | ((with_reducible refine (in_litC q1 _).mono ?_); rintro e w' ⟨rfl, rfl⟩) | ((with_reducible refine (in_litC q2 _).mono ?_); rintro e w' ⟨rfl, rfl⟩))
  go_ret
  exact ⟨ret_bool F.out.symm, zB⟩
 | true =>
 have Q2 : Hid (inB i.arg 0 (mostC p i.op) = true) := qh (by rw [hm]; exact q2)
 have BX0 : Hid (Box5 (w.alloc (.cells #[.slice gA p.globals.length gc, .slice lA p.locks.length lc, .slice pA p.procs.length pc, .slice eA p.entry.length ec, .slice (some ⟨b, off, none⟩) p.ins.length ic] 32)) w.heap.size ⟨gA, gc, lA, lc, pA, pc, eA, ec, some ⟨b, off, none⟩, ic⟩ p) := qh (Box5.new w ⟨gA, gc, lA, lc, pA, pc, eA, ec, some ⟨b, off, none⟩, ic⟩ p _)
 clear hm
 have CX0 : Hid (Cells7 ((w.alloc (.cells #[.slice gA p.globals.length gc, .slice lA p.locks.length lc, .slice pA p.procs.length pc, .slice eA p.entry.length ec, .slice (some ⟨b, off, none⟩) p.ins.length ic] 32)).alloc (.cells #[.int .i64 6, .int .i64 i.arg, .int .i64 yk, .int .i64 yn, .string ys, .slice yA ym yc, .int .i64 i.to] 45)) (w.heap.size + 1) 0 ⟨6, i.arg, yk, yn, ys, yA, ym, yc, i.to⟩) := qh (by
  have := Cells7.new (w.alloc (.cells #[.slice gA p.globals.length gc, .slice lA p.locks.length lc, .slice pA p.procs.length pc, .slice eA p.entry.length ec, .slice (some ⟨b, off, none⟩) p.ins.length ic] 32)) ⟨6, i.arg, yk, yn, ys, yA, ym, yc, i.to⟩ 45
  rwa [World.size_alloc] at this)
 cases h3 : sameB i.term zeroTm with
 | false =>
  have F : Hid (insB p i (bE p j) (lE p j) = false) := qh (insB_trm (by rw [trmB_zero (by rw [hopH.out]; simp)]; exact h3))
  go_enter Tryz.func66, Tryz.ntmps66
  go_wp2_with (go_at_call 35; first | ((with_reducible refine (in_litC q1 _).mono ?_); rintro e w' ⟨rfl, rfl⟩) | ((with_reducible refine (in_litC q2 _).mono ?_); rintro e w' ⟨rfl, rfl⟩))
  refine (spec_SameTerm i.term zeroTm yk yn ys yA ym yc 0 0 ByteArray.empty none 0 0 _ (HT.out.belowA zB) (zero_is _)).mono ?_
  rintro e w1 ⟨rfl, b1⟩
  have BB : Hid (Below w.heap.size w w1) := qh (Below.trans zB (b1.mono (by simp; try omega)))
  have BX := qh (((BX0.out.below (Below.alloc (Below.refl _ _) (Nat.le_refl _) _)).below b1))
  have CX := qh (CX0.out.below b1)
  rw [h3]
  clear b1
  go_wp2_with fail
  go_ret
  exact ⟨ret_bool F.out.symm, BB.out⟩
 | true =>
 have FIN : Hid (insB p i (bE p j) (lE p j) = tgtB i (bE p j) (lE p j)) := qh (insB_fin Q1.out Q2.out (by rw [trmB_zero (by rw [hopH.out]; simp)]; exact h3))
 go_enter Tryz.func66, Tryz.ntmps66
 go_wp2_with (go_at_call 35; first | ((with_reducible refine (in_litC q1 _).mono ?_); rintro e w' ⟨rfl, rfl⟩) | ((with_reducible refine (in_litC q2 _).mono ?_); rintro e w' ⟨rfl, rfl⟩))
 refine (spec_SameTerm i.term zeroTm yk yn ys yA ym yc 0 0 ByteArray.empty none 0 0 _ (HT.out.belowA zB) (zero_is _)).mono ?_
 rintro e w1 ⟨rfl, b1⟩
 have BB : Hid (Below w.heap.size w w1) := qh (Below.trans zB (b1.mono (by simp; try omega)))
 have BX := qh (((BX0.out.below (Below.alloc (Below.refl _ _) (Nat.le_refl _) _)).below b1))
 have CX := qh (CX0.out.below b1)
 rw [h3]
 clear b1 h3 d0 d1 d2 d3 d4 d5 d6
 obtain ⟨p0, p1, p2, p3, p4⟩ := BX.out
 obtain ⟨r0, r1, r2, r3, r4, r5, r6⟩ := CX.out
 simp only at p0 p1 p2 p3 p4 r0 r1 r2 r3 r4 r5 r6
 go_wp2_with fail
 go_ret
 exact ⟨ret_bool (by rw [FIN.out, tgtB_none (by rw [hopH.out]; simp)]), BB.out⟩
theorem spec_l08Ins_7 (p : Cd) (x : V5) (w : World) (hp : CdIs w x p) (j : Nat) (hj : j < p.ins.length) (hop : p.ins[j].op = 7) (htot : totCd p ≤ 1048576) (hh : HeadOk p) :
  Calls Tryz.prog 66 #[x.val p, .int .i64 (j : Int)] w fun e w' => e = .returned (.bool (insB p p.ins[j] (bE p j) (lE p j))) ∧ Below w.heap.size w w' := by
 obtain ⟨gA, gc, lA, lc, pA, pc, eA, ec, iA, ic⟩ := x
 have htt := ins_tot hj htot
 have HN := qh (head_nn hh)
 obtain ⟨pn, hpn, hpe⟩ := proc_at hh hj
 have HPn := qh hpe
 obtain ⟨b, off, ⟨yo, ya, yk, yn, ys, yA, ym, yc, yt⟩, e1, _, ⟨d0, d1, d2, d3, d4, d5, d6⟩, hI⟩ := rd_ins hp.i3 hj
 simp only at e1 d0 d1 d2 d3 d4 d5 d6
 subst e1
 have HP := qh hp
 have hgl := hp.g1
 have hgc := hp.g2
 have hll := hp.l1
 have hlc := hp.l2
 have hpl := hp.p1
 have hpc := hp.p2
 have hel := hp.e1
 have hec := hp.e2
 have hil := hp.i1
 have hic := hp.i2
 simp only at hgl hgc hll hlc hpl hpc hel hec hil hic
 unfold maxLen at hgc hlc hpc hec hic
 clear hp htot hh hpe
 generalize hi : p.ins[j] = i at *
 obtain ⟨ho, ha, hto, _, _, _, hT⟩ := hI
 simp only [V7.term] at ho ha hto hT
 have HT := qh hT
 have hbl := cell_lt d0
 simp only at hbl
 have hnd : nodes i.term ≤ 10000000 := by have := nodes_tot i.term; omega
 have h0j : (0 : Int) ≤ (j : Int) := by omega
 have h1j : (j : Int) < (p.ins.length : Int) := by omega
 clear hT hi htt
 subst ha hto
 unfold V5.val
 simp only
 have hm : mostC p i.op = ((p.locks.length : Int) - 1) := by rw [hop]; rfl
 have hopH := qh hop
 rw [hop] at ho
 subst ho
 have q1 : inB 7 1 9 = true := rfl
 have Q1 : Hid (inB i.op 1 9 = true) := qh (by rw [hop]; rfl)
 clear hop
 cases q2 : inB i.arg 0 ((p.locks.length : Int) - 1) with
 | false =>
  have F : Hid (insB p i (bE p j) (lE p j) = false) := qh (insB_arg (by rw [hm]; exact q2))
  clear hm
  go_enter Tryz.func66, Tryz.ntmps66
  go_wp2_with (go_at_call 35; first | ((with_reducible refine (in_litC q1 _).mono ?_); rintro e w' ⟨rfl, rfl⟩) | ((with_reducible refine (in_litC q2 _).mono ?_); rintro e w' ⟨rfl, rfl⟩))
  go_ret
  exact ⟨ret_bool F.out.symm, zB⟩
 | true =>
 have Q2 : Hid (inB i.arg 0 (mostC p i.op) = true) := qh (by rw [hm]; exact q2)
 have BX0 : Hid (Box5 (w.alloc (.cells #[.slice gA p.globals.length gc, .slice lA p.locks.length lc, .slice pA p.procs.length pc, .slice eA p.entry.length ec, .slice (some ⟨b, off, none⟩) p.ins.length ic] 32)) w.heap.size ⟨gA, gc, lA, lc, pA, pc, eA, ec, some ⟨b, off, none⟩, ic⟩ p) := qh (Box5.new w ⟨gA, gc, lA, lc, pA, pc, eA, ec, some ⟨b, off, none⟩, ic⟩ p _)
 clear hm
 have CX0 : Hid (Cells7 ((w.alloc (.cells #[.slice gA p.globals.length gc, .slice lA p.locks.length lc, .slice pA p.procs.length pc, .slice eA p.entry.length ec, .slice (some ⟨b, off, none⟩) p.ins.length ic] 32)).alloc (.cells #[.int .i64 7, .int .i64 i.arg, .int .i64 yk, .int .i64 yn, .string ys, .slice yA ym yc, .int .i64 i.to] 45)) (w.heap.size + 1) 0 ⟨7, i.arg, yk, yn, ys, yA, ym, yc, i.to⟩) := qh (by
  have := Cells7.new (w.alloc (.cells #[.slice gA p.globals.length gc, .slice lA p.locks.length lc, .slice pA p.procs.length pc, .slice eA p.entry.length ec, .slice (some ⟨b, off, none⟩) p.ins.length ic] 32)) ⟨7, i.arg, yk, yn, ys, yA, ym, yc, i.to⟩ 45
  rwa [World.size_alloc] at this)
 cases h3 : sameB i.term zeroTm with
 | false =>
  have F : Hid (insB p i (bE p j) (lE p j) = false) := qh (insB_trm (by rw [trmB_zero (by rw [hopH.out]; simp)]; exact h3))
  go_enter Tryz.func66, Tryz.ntmps66
  go_wp2_with (go_at_call 35; first | ((with_reducible refine (in_litC q1 _).mono ?_); rintro e w' ⟨rfl, rfl⟩) | ((with_reducible refine (in_litC q2 _).mono ?_); rintro e w' ⟨rfl, rfl⟩))
  refine (spec_SameTerm i.term zeroTm yk yn ys yA ym yc 0 0 ByteArray.empty none 0 0 _ (HT.out.belowA zB) (zero_is _)).mono ?_
  rintro e w1 ⟨rfl, b1⟩
  have BB : Hid (Below w.heap.size w w1) := qh (Below.trans zB (b1.mono (by simp; try omega)))
  have BX := qh (((BX0.out.below (Below.alloc (Below.refl _ _) (Nat.le_refl _) _)).below b1))
  have CX := qh (CX0.out.below b1)
  rw [h3]
  clear b1
  go_wp2_with fail
  go_ret
  exact ⟨ret_bool F.out.symm, BB.out⟩
 | true =>
 have FIN : Hid (insB p i (bE p j) (lE p j) = tgtB i (bE p j) (lE p j)) := qh (insB_fin Q1.out Q2.out (by rw [trmB_zero (by rw [hopH.out]; simp)]; exact h3))
 go_enter Tryz.func66, Tryz.ntmps66
 go_wp2_with (go_at_call 35; first | ((with_reducible refine (in_litC q1 _).mono ?_); rintro e w' ⟨rfl, rfl⟩) | ((with_reducible refine (in_litC q2 _).mono ?_); rintro e w' ⟨rfl, rfl⟩))
 refine (spec_SameTerm i.term zeroTm yk yn ys yA ym yc 0 0 ByteArray.empty none 0 0 _ (HT.out.belowA zB) (zero_is _)).mono ?_
 rintro e w1 ⟨rfl, b1⟩
 have BB : Hid (Below w.heap.size w w1) := qh (Below.trans zB (b1.mono (by simp; try omega)))
 have BX := qh (((BX0.out.below (Below.alloc (Below.refl _ _) (Nat.le_refl _) _)).below b1))
 have CX := qh (CX0.out.below b1)
 rw [h3]
 clear b1 h3 d0 d1 d2 d3 d4 d5 d6
 obtain ⟨p0, p1, p2, p3, p4⟩ := BX.out
 obtain ⟨r0, r1, r2, r3, r4, r5, r6⟩ := CX.out
 simp only at p0 p1 p2 p3 p4 r0 r1 r2 r3 r4 r5 r6
 go_wp2_with fail
 go_ret
 exact ⟨ret_bool (by rw [FIN.out, tgtB_none (by rw [hopH.out]; simp)]), BB.out⟩
theorem spec_l08Ins_o (p : Cd) (x : V5) (w : World) (hp : CdIs w x p) (j : Nat) (hj : j < p.ins.length) (h1 : p.ins[j].op ≠ 1) (h2 : p.ins[j].op ≠ 2) (h3 : p.ins[j].op ≠ 3) (h4 : p.ins[j].op ≠ 4) (h5 : p.ins[j].op ≠ 5) (h6 : p.ins[j].op ≠ 6) (h7 : p.ins[j].op ≠ 7) (htot : totCd p ≤ 1048576) (hh : HeadOk p) :
  Calls Tryz.prog 66 #[x.val p, .int .i64 (j : Int)] w fun e w' => e = .returned (.bool (insB p p.ins[j] (bE p j) (lE p j))) ∧ Below w.heap.size w w' := by
 obtain ⟨gA, gc, lA, lc, pA, pc, eA, ec, iA, ic⟩ := x
 have htt := ins_tot hj htot
 have HN := qh (head_nn hh)
 obtain ⟨pn, hpn, hpe⟩ := proc_at hh hj
 have HPn := qh hpe
 obtain ⟨b, off, ⟨yo, ya, yk, yn, ys, yA, ym, yc, yt⟩, e1, _, ⟨d0, d1, d2, d3, d4, d5, d6⟩, hI⟩ := rd_ins hp.i3 hj
 simp only at e1 d0 d1 d2 d3 d4 d5 d6
 subst e1
 have HP := qh hp
 have hgl := hp.g1
 have hgc := hp.g2
 have hll := hp.l1
 have hlc := hp.l2
 have hpl := hp.p1
 have hpc := hp.p2
 have hel := hp.e1
 have hec := hp.e2
 have hil := hp.i1
 have hic := hp.i2
 simp only at hgl hgc hll hlc hpl hpc hel hec hil hic
 unfold maxLen at hgc hlc hpc hec hic
 clear hp htot hh hpe
 generalize hi : p.ins[j] = i at *
 obtain ⟨ho, ha, hto, _, _, _, hT⟩ := hI
 simp only [V7.term] at ho ha hto hT
 have HT := qh hT
 have hbl := cell_lt d0
 simp only at hbl
 have hnd : nodes i.term ≤ 10000000 := by have := nodes_tot i.term; omega
 have h0j : (0 : Int) ≤ (j : Int) := by omega
 have h1j : (j : Int) < (p.ins.length : Int) := by omega
 clear hT hi htt
 subst ha hto
 unfold V5.val
 simp only
 have hm : mostC p i.op = 0 := by unfold mostC; rw [if_neg h1, if_neg (by omega), if_neg (by omega)]
 subst ho
 have NO := qh (And.intro h1 (And.intro h2 (And.intro h3 (And.intro h4 (And.intro h5 (And.intro h6 h7))))))
 have f1 : (i.op == 1) = false := by simpa using h1
 have f2 : (i.op == 2) = false := by simpa using h2
 have f3 : (i.op == 3) = false := by simpa using h3
 have f4 : (i.op == 4) = false := by simpa using h4
 have f5 : (i.op == 5) = false := by simpa using h5
 have f6 : (i.op == 6) = false := by simpa using h6
 have f7 : (i.op == 7) = false := by simpa using h7
 have g2 : (i.op != 2) = true := by simpa using h2
 have g3 : (i.op != 3) = true := by simpa using h3
 clear h1 h2 h3 h4 h5 h6 h7
 cases q1 : inB i.op 1 9 with
 | false =>
  have F : Hid (insB p i (bE p j) (lE p j) = false) := qh (insB_op q1)
  clear hm
  go_enter Tryz.func66, Tryz.ntmps66
  go_wp2_with (go_at_call 35; (with_reducible refine (in_litC q1 _).mono ?_); rintro e w' ⟨rfl, rfl⟩)
  go_ret
  exact ⟨ret_bool F.out.symm, zB⟩
 | true =>
 have Q1 := qh q1
 cases q2 : inB i.arg 0 0 with
 | false =>
  have F : Hid (insB p i (bE p j) (lE p j) = false) := qh (insB_arg (by rw [hm]; exact q2))
  clear hm
  go_enter Tryz.func66, Tryz.ntmps66
  go_wp2_with (go_at_call 35; first | ((with_reducible refine (in_litC q1 _).mono ?_); rintro e w' ⟨rfl, rfl⟩) | ((with_reducible refine (in_litC q2 _).mono ?_); rintro e w' ⟨rfl, rfl⟩))
  go_ret
  exact ⟨ret_bool F.out.symm, zB⟩
 | true =>
 have Q2 : Hid (inB i.arg 0 (mostC p i.op) = true) := qh (by rw [hm]; exact q2)
 have BX0 : Hid (Box5 (w.alloc (.cells #[.slice gA p.globals.length gc, .slice lA p.locks.length lc, .slice pA p.procs.length pc, .slice eA p.entry.length ec, .slice (some ⟨b, off, none⟩) p.ins.length ic] 32)) w.heap.size ⟨gA, gc, lA, lc, pA, pc, eA, ec, some ⟨b, off, none⟩, ic⟩ p) := qh (Box5.new w ⟨gA, gc, lA, lc, pA, pc, eA, ec, some ⟨b, off, none⟩, ic⟩ p _)
 clear hm
 have CX0 : Hid (Cells7 ((w.alloc (.cells #[.slice gA p.globals.length gc, .slice lA p.locks.length lc, .slice pA p.procs.length pc, .slice eA p.entry.length ec, .slice (some ⟨b, off, none⟩) p.ins.length ic] 32)).alloc (.cells #[.int .i64 i.op, .int .i64 i.arg, .int .i64 yk, .int .i64 yn, .string ys, .slice yA ym yc, .int .i64 i.to] 45)) (w.heap.size + 1) 0 ⟨i.op, i.arg, yk, yn, ys, yA, ym, yc, i.to⟩) := qh (by
  have := Cells7.new (w.alloc (.cells #[.slice gA p.globals.length gc, .slice lA p.locks.length lc, .slice pA p.procs.length pc, .slice eA p.entry.length ec, .slice (some ⟨b, off, none⟩) p.ins.length ic] 32)) ⟨i.op, i.arg, yk, yn, ys, yA, ym, yc, i.to⟩ 45
  rwa [World.size_alloc] at this)
 cases h3 : sameB i.term zeroTm with
 | false =>
  have F : Hid (insB p i (bE p j) (lE p j) = false) := qh (insB_trm (by rw [trmB_zero (fun h => h.elim NO.out.1 NO.out.2.1)]; exact h3))
  go_enter Tryz.func66, Tryz.ntmps66
  go_wp2_with (go_at_call 35; first | ((with_reducible refine (in_litC q1 _).mono ?_); rintro e w' ⟨rfl, rfl⟩) | ((with_reducible refine (in_litC q2 _).mono ?_); rintro e w' ⟨rfl, rfl⟩))
  refine (spec_SameTerm i.term zeroTm yk yn ys yA ym yc 0 0 ByteArray.empty none 0 0 _ (HT.out.belowA zB) (zero_is _)).mono ?_
  rintro e w1 ⟨rfl, b1⟩
  have BB : Hid (Below w.heap.size w w1) := qh (Below.trans zB (b1.mono (by simp; try omega)))
  have BX := qh (((BX0.out.below (Below.alloc (Below.refl _ _) (Nat.le_refl _) _)).below b1))
  have CX := qh (CX0.out.below b1)
  rw [h3]
  clear b1
  go_wp2_with fail
  go_ret
  exact ⟨ret_bool F.out.symm, BB.out⟩
 | true =>
 have FIN : Hid (insB p i (bE p j) (lE p j) = tgtB i (bE p j) (lE p j)) := qh (insB_fin Q1.out Q2.out (by rw [trmB_zero (fun h => h.elim NO.out.1 NO.out.2.1)]; exact h3))
 go_enter Tryz.func66, Tryz.ntmps66
 go_wp2_with (go_at_call 35; first | ((with_reducible refine (in_litC q1 _).mono ?_); rintro e w' ⟨rfl, rfl⟩) | ((with_reducible refine (in_litC q2 _).mono ?_); rintro e w' ⟨rfl, rfl⟩))
 refine (spec_SameTerm i.term zeroTm yk yn ys yA ym yc 0 0 ByteArray.empty none 0 0 _ (HT.out.belowA zB) (zero_is _)).mono ?_
 rintro e w1 ⟨rfl, b1⟩
 have BB : Hid (Below w.heap.size w w1) := qh (Below.trans zB (b1.mono (by simp; try omega)))
 have BX := qh (((BX0.out.below (Below.alloc (Below.refl _ _) (Nat.le_refl _) _)).below b1))
 have CX := qh (CX0.out.below b1)
 rw [h3]
 clear b1 h3 d0 d1 d2 d3 d4 d5 d6
 obtain ⟨p0, p1, p2, p3, p4⟩ := BX.out
 obtain ⟨r0, r1, r2, r3, r4, r5, r6⟩ := CX.out
 simp only at p0 p1 p2 p3 p4 r0 r1 r2 r3 r4 r5 r6
 go_wp2_with fail
 go_ret
 exact ⟨ret_bool (by rw [FIN.out, tgtB_none (fun h => h.elim NO.out.2.1 NO.out.2.2.1)]), BB.out⟩
theorem spec_l08Ins (p : Cd) (x : V5) (w : World) (hp : CdIs w x p) (j : Nat) (hj : j < p.ins.length) (htot : totCd p ≤ 1048576) (hh : HeadOk p) :
  Calls Tryz.prog 66 #[x.val p, .int .i64 (j : Int)] w fun e w' => e = .returned (.bool (insB p p.ins[j] (bE p j) (lE p j))) ∧ Below w.heap.size w w' := by
 by_cases h1 : p.ins[j].op = 1
 ·exact spec_l08Ins_1 p x w hp j hj h1 htot hh
 by_cases h2 : p.ins[j].op = 2
 ·exact spec_l08Ins_2 p x w hp j hj h2 htot hh
 by_cases h3 : p.ins[j].op = 3
 ·exact spec_l08Ins_3 p x w hp j hj h3 htot hh
 by_cases h4 : p.ins[j].op = 4
 ·exact spec_l08Ins_4 p x w hp j hj h4 htot hh
 by_cases h5 : p.ins[j].op = 5
 ·exact spec_l08Ins_5 p x w hp j hj h5 htot hh
 by_cases h6 : p.ins[j].op = 6
 ·exact spec_l08Ins_6 p x w hp j hj h6 htot hh
 by_cases h7 : p.ins[j].op = 7
 ·exact spec_l08Ins_7 p x w hp j hj h7 htot hh
 exact spec_l08Ins_o p x w hp j hj h1 h2 h3 h4 h5 h6 h7 htot hh
end Go.Proofs.YtnmblfonmfjoeaaGreatDoor
