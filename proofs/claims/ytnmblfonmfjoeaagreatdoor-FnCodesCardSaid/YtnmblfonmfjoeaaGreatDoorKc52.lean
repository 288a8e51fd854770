/- Lemmas for the row. -/
import Derived.Test.YtnmblfonmfjoeaaGreatDoorKc47
import Derived.Test.YtnmblfonmfjoeaaGreatDoorKc51
namespace Go.Proofs.YtnmblfonmfjoeaaGreatDoor
open Go.RowKit
set_option maxHeartbeats 12800000
set_option maxRecDepth 100000
set_option linter.unusedVariables false
theorem impl_InsLine_yes (p : Cd) (x : V5) (w : World) (hp : CdIs w x p) (htot : totCd p ≤ 1048576) (hk : CodOk p) (j : Nat) (hj : j < p.ins.length) (tab : TabW w) :
  Calls Tryz.prog 12 #[x.val p, .int .i64 (j : Int)] w fun e w' => e = .returned (.string ⟨(lineL p p.ins[j] j).toArray⟩) ∧ Below w.heap.size w w' := by
 obtain ⟨gA, gc, lA, lc, pA, pc, eA, ec, iA, ic⟩ := x
 obtain ⟨b, off, ⟨yo, ya, yk, yn, ys, yA, ym, yc, yt⟩, e1, _, _, -, -, -, io, ia, ito, -⟩ := rd_ins hp.i3 hj
 simp only at e1
 subst e1
 have hgl := hp.g1
 have hgc := hp.g2
 have hll := hp.l1
 have hlc := hp.l2
 have hpl := hp.p1
 have hpc := hp.p2
 have hil := hp.i1
 have hic := hp.i2
 simp only at hgl hgc hll hlc hpl hpc hil hic
 unfold maxLen at hgc hlc hpc hic
 have HK := qh hk
 have H1 := qh (decP_yes hk)
 have IN := qh (ins_in hk hj).2
 have h0j : (0 : Int) ≤ (j : Int) := by omega
 have h1j : (j : Int) < (p.ins.length : Int) := by omega
 have q2 : inB (j : Int) 0 ((p.ins.length : Int) - 1) = true := inBi_yes (by omega) (by omega)
 have HQ := qh hp
 unfold V5.val
 simp only
 obtain ⟨an, han⟩ : ∃ an : Nat, p.ins[j].arg = (an : Int) := ⟨p.ins[j].arg.toNat, by have := (inB_dest IN.out).1; omega⟩
 have HAN := qh han
 obtain ⟨F, hF⟩ : ∃ F : ByteArray, ⟨(lineL p p.ins[j] j).toArray⟩ = F := ⟨_, rfl⟩
 rw [hF]
 have HF := qh hF
 have htl := itoa_20 p.ins[j].to ito.1 ito.2
 have hjl := itoa_20 (j : Int) (by omega) (by omega)
 have hxl := txtR_len p.ins[j].term
 have h0a : (0 : Int) ≤ (an : Int) := by omega
 have hop := inB_dest (ins_in hk hj).1
 obtain ⟨op, ho0⟩ : ∃ o, p.ins[j].op = o := ⟨_, rfl⟩
 rw [ho0] at hop
 obtain ⟨hop1, hop9⟩ := hop
 have HO := qh ho0
 clear hp hk io ia hF han ho0
 have TB := qh tab
 clear tab
 go_enter Tryz.func12, Tryz.ntmps12
 go_wp2_with fail
 refine (impl_isPlace p ⟨gA, gc, lA, lc, pA, pc, eA, ec, some ⟨b, off, none⟩, ic⟩ _ (HQ.out.belowA zB) (j : Int)).mono ?_
 rintro e w1 ⟨rfl, b1⟩
 have BA := qh (Below.trans zB (b1.mono (by simp)) : Below w.heap.size w w1)
 have BXA := qh ((Box5.new w ⟨gA, gc, lA, lc, pA, pc, eA, ec, some ⟨b, off, none⟩, ic⟩ p 32).below b1)
 rw [q2]
 clear b1
 obtain ⟨p0, p1, p2, p3, p4⟩ := BXA.out
 simp only at p0 p1 p2 p3 p4
 go_wp2_with fail
 refine (impl_CodeOk p ⟨gA, gc, lA, lc, pA, pc, eA, ec, some ⟨b, off, none⟩, ic⟩ _ (HQ.out.belowA BA.out) htot).mono ?_
 rintro e w2 ⟨rfl, b1⟩
 have BB := qh (below_then BA.out b1)
 have BX := qh (BXA.out.below b1)
 rw [H1.out]
 clear b1 p0 p1 p2 p3 p4
 obtain ⟨p0, p1, p2, p3, p4⟩ := BX.out
 simp only at p0 p1 p2 p3 p4
 obtain ⟨b', off', ⟨yo', ya', yk', yn', ys', yA', ym', yc', yt'⟩, e1, _, ⟨d0, d1, d2, d3, d4, d5, d6⟩, ho, ha, hto, _, _, _, hT⟩ := rd_ins (HQ.out.belowA BB.out).i3 hj
 injection e1 with e1
 injection e1 with e2 e3
 subst e2 e3
 simp only [V7.term] at ho ha hto hT d0 d1 d2 d3 d4 d5 d6
 rw [HO.out] at ho
 subst ho ha hto
 have HT := qh hT
 have CX0 := qh (Cells7.new w2 ⟨yo', p.ins[j].arg, yk', yn', ys', yA', ym', yc', p.ins[j].to⟩ 45)
 clear hT
 go_wp2_with fail
 refine (impl_Decimal (j : Int) (by omega) (by omega) _ (TB.out.below (below_then BB.out (Below.alloc (Below.refl _ _) (Nat.le_refl _) _)))).mono ?_
 rintro e w4 ⟨rfl, b4⟩
 have B4 := qh (below_then BB.out (Below.trans (Below.alloc (Below.refl _ _) (Nat.le_refl _) _) (b4.mono (by simp))))
 have BX4 := qh (BX.out.below (Below.trans (Below.alloc (Below.refl _ _) (Nat.le_refl _) _) (b4.mono (by simp))))
 have CX4 := qh (CX0.out.below b4)
 have HT4 := qh (HT.out.belowA (Below.trans (Below.alloc (Below.refl _ _) (Nat.le_refl _) _) (b4.mono (by simp))))
 clear b4 d0 d1 d2 d3 d4 d5 d6 p0 p1 p2 p3 p4 BX CX0 HT
 generalize hJ : Lib.itoa (j : Int) = J at *
 have HJ := qh hJ
 obtain ⟨p0, p1, p2, p3, p4⟩ := BX4.out
 obtain ⟨r0, r1, r2, r3, r4, r5, r6⟩ := CX4.out
 simp only at p0 p1 p2 p3 p4 r0 r1 r2 r3 r4 r5 r6
 rw [HAN.out] at r1
 have hcs : yo' = 1 ∨ yo' = 2 ∨ yo' = 3 ∨ (yo' = 4 ∨ yo' = 5) ∨ (yo' = 6 ∨ yo' = 7) ∨ yo' = 8 ∨ yo' = 9 := by omega
 clear hop1 hop9 hJ
 rcases hcs with rfl | rfl | rfl | h | h | h
 ·have hal : an < p.globals.length := by
   have h1 := (inB_dest IN.out).2
   rw [HO.out, HAN.out] at h1
   have h2 : (an : Int) ≤ (p.globals.length : Int) - 1 := h1
   omega
  have hsm := name_small (nam_g HK.out.head.nam) hal
  have h1a : (an : Int) < (p.globals.length : Int) := by omega
  obtain ⟨nb, noff, e1, ncell⟩ := rd_str (HQ.out.belowA B4.out).g3 hal
  simp only at e1
  subst e1
  generalize hnm : p.globals[an] = nm at *
  have HNM := qh hnm
  have NC := qh ncell
  clear hnm
  go_wp2_with fail
  clear p0 p1 p2 p3 p4 r0 r1 r2 r3 r4 r5 r6 ncell
  refine wp_region_later (by kernel_rfl) (by kernel_rfl) ?_
  intro gw hgw hcw
  have HG := qh hgw
  have HC := qh hcw
  clear hgw hcw
  have P := qh (fun n => BX4.out.below (HG.out n))
  have C := qh (fun n => CX4.out.below (HG.out n))
  obtain ⟨p0, p1, p2, p3, p4, r0, r1, r2, r3, r4, r5, r6⟩ := all12 P.out C.out
  simp only at p0 p1 p2 p3 p4 r0 r1 r2 r3 r4 r5 r6
  simp only [HAN.out] at r1
  have nc : ∀ n, (gw n).cell? ⟨nb, noff + an, none⟩ = some (.string nm) := fun n => cell_keep (HG.out n) NC.out
  have QT := qh (fun m => impl_TermText p.ins[j].term yk' yn' ys' yA' ym' yc' (gw m) (HT4.out.belowA (HG.out m)) (TB.out.below (below_then B4.out (HG.out m))))
  generalize hTT : txtR p.ins[j].term = T at *
  have HTT := qh hTT
  clear hTT
  repeat (go_big_quiet_step ((first | (go_at_call 33; exact later_of HC (QT.out _)))))
  refine wpQuiet_nil ?_
  intro _ hw'
  obtain ⟨nq, hw''⟩ := hw'
  subst hw''
  clear p0 p1 p2 p3 p4 r0 r1 r2 r3 r4 r5 r6 nc
  go_wp2_with fail
  go_ret
  exact ⟨ret_str (by rw [← HF.out]; apply str_ext; simp [lineL, restL, HO.out, HJ.out, HAN.out, nmAt_get hal, HNM.out, HTT.out]), below_then B4.out (HG.out _)⟩
 ·go_wp2_with fail
  clear p0 p1 p2 p3 p4 r0 r1 r2 r3 r4 r5 r6
  refine wp_region_later (by kernel_rfl) (by kernel_rfl) ?_
  intro gw hgw hcw
  have HG := qh hgw
  have HC := qh hcw
  clear hgw hcw
  have P := qh (fun n => BX4.out.below (HG.out n))
  have C := qh (fun n => CX4.out.below (HG.out n))
  obtain ⟨p0, p1, p2, p3, p4, r0, r1, r2, r3, r4, r5, r6⟩ := all12 P.out C.out
  simp only at p0 p1 p2 p3 p4 r0 r1 r2 r3 r4 r5 r6
  have QT := qh (fun m => impl_TermText p.ins[j].term yk' yn' ys' yA' ym' yc' (gw m) (HT4.out.belowA (HG.out m)) (TB.out.below (below_then B4.out (HG.out m))))
  have QD := qh (fun m => impl_Decimal p.ins[j].to ito.1 ito.2 (gw m) (TB.out.below (below_then B4.out (HG.out m))))
  generalize hTT : txtR p.ins[j].term = T at *
  generalize hDD : Lib.itoa p.ins[j].to = D at *
  have HTT := qh hTT
  have HDD := qh hDD
  clear hTT hDD
  repeat (go_big_quiet_step ((first | (go_at_call 33; exact later_of HC (QT.out _)) | (go_at_call 32; exact later_of HC (QD.out _)))))
  refine wpQuiet_nil ?_
  intro _ hw'
  obtain ⟨nq, hw''⟩ := hw'
  subst hw''
  clear p0 p1 p2 p3 p4 r0 r1 r2 r3 r4 r5 r6
  go_wp2_with fail
  go_ret
  exact ⟨ret_str (by rw [← HF.out]; apply str_ext; simp [lineL, restL, HO.out, HJ.out, HTT.out, HDD.out]), below_then B4.out (HG.out _)⟩
 ·go_wp2_with fail
  refine (impl_Decimal p.ins[j].to ito.1 ito.2 _ (TB.out.below B4.out)).mono ?_
  rintro e w5 ⟨rfl, b5⟩
  have B5 := qh (below_then B4.out b5)
  clear b5 p0 p1 p2 p3 p4 r0 r1 r2 r3 r4 r5 r6
  generalize hDD : Lib.itoa p.ins[j].to = D at *
  have HDD := qh hDD
  clear hDD
  go_wp2_with fail
  go_ret
  exact ⟨ret_str (by rw [← HF.out]; apply str_ext; simp [lineL, restL, HO.out, HJ.out, HDD.out]), B5.out⟩
 ·rcases h with rfl | rfl
  all_goals
   have hal : an < p.procs.length := by
    have h1 := (inB_dest IN.out).2
    rw [HO.out, HAN.out] at h1
    have h2 : (an : Int) ≤ (p.procs.length : Int) - 1 := h1
    omega
   have hsm := name_small (nam_p HK.out.head.nam) hal
   have h1a : (an : Int) < (p.procs.length : Int) := by omega
   obtain ⟨nb, noff, e1, ncell⟩ := rd_str (HQ.out.belowA B4.out).p3 hal
   simp only at e1
   subst e1
   generalize hnm : p.procs[an] = nm at *
   have HNM := qh hnm
   clear hnm
   go_wp2_with fail
   go_ret
   exact ⟨ret_str (by rw [← HF.out]; apply str_ext; simp [lineL, restL, HO.out, HJ.out, HAN.out, nmAt_get hal, HNM.out]), B4.out⟩
 ·rcases h with rfl | rfl
  all_goals
   have hal : an < p.locks.length := by
    have h1 := (inB_dest IN.out).2
    rw [HO.out, HAN.out] at h1
    have h2 : (an : Int) ≤ (p.locks.length : Int) - 1 := h1
    omega
   have hsm := name_small (nam_l HK.out.head.nam) hal
   have h1a : (an : Int) < (p.locks.length : Int) := by omega
   obtain ⟨nb, noff, e1, ncell⟩ := rd_str (HQ.out.belowA B4.out).l3 hal
   simp only at e1
   subst e1
   generalize hnm : p.locks[an] = nm at *
   have HNM := qh hnm
   clear hnm
   go_wp2_with fail
   go_ret
   exact ⟨ret_str (by rw [← HF.out]; apply str_ext; simp [lineL, restL, HO.out, HJ.out, HAN.out, nmAt_get hal, HNM.out]), B4.out⟩
 ·rcases h with rfl | rfl
  all_goals
   go_wp2_with fail
   go_ret
   exact ⟨ret_str (by rw [← HF.out]; apply str_ext; simp [lineL, restL, HO.out, HJ.out]), B4.out⟩
theorem impl_InsLine_no (p : Cd) (x : V5) (w : World) (hp : CdIs w x p) (a : Int) (h2 : inB a 0 ((p.ins.length : Int) - 1) = false) :
  Calls Tryz.prog 12 #[x.val p, .int .i64 a] w fun e w' => e = .returned (.string ⟨#[]⟩) ∧ Below w.heap.size w w' := by
 obtain ⟨gA, gc, lA, lc, pA, pc, eA, ec, iA, ic⟩ := x
 have HP := qh hp
 have H2 := qh h2
 clear hp h2
 unfold V5.val
 simp only
 go_enter Tryz.func12, Tryz.ntmps12
 go_wp2_with fail
 refine (impl_isPlace p ⟨gA, gc, lA, lc, pA, pc, eA, ec, iA, ic⟩ _ (HP.out.belowA zB) a).mono ?_
 rintro e w1 ⟨rfl, b1⟩
 have BA := qh (Below.trans zB (b1.mono (by simp)) : Below w.heap.size w w1)
 rw [H2.out]
 clear b1
 go_wp2_with fail
 go_ret
 exact ⟨rfl, BA.out⟩
theorem all5 {ι : Type} {g : ι → World} {a : Nat} {x : V5} {p : Cd} (h : ∀ n, Box5 (g n) a x p) : (∀ n, (g n).cell? ⟨a, 0, none⟩ = some (.slice x.gA p.globals.length x.gc)) ∧ (∀ n, (g n).cell? ⟨a, 1, none⟩ = some (.slice x.lA p.locks.length x.lc)) ∧ (∀ n, (g n).cell? ⟨a, 2, none⟩ = some (.slice x.pA p.procs.length x.pc)) ∧ (∀ n, (g n).cell? ⟨a, 3, none⟩ = some (.slice x.eA p.entry.length x.ec)) ∧ ∀ n, (g n).cell? ⟨a, 4, none⟩ = some (.slice x.iA p.ins.length x.ic) :=
 ⟨fun n => (h n).1, fun n => (h n).2.1, fun n => (h n).2.2.1, fun n => (h n).2.2.2.1, fun n => (h n).2.2.2.2⟩
theorem line_not (p : Cd) (x : Ic) (j : Nat) : (⟨(lineL p x j).toArray⟩ : ByteArray).toList.isEmpty = false := by
 rw [Lib.toList_data]
 simp [lineL]
theorem law_Codes (v : Value) (code : List UInt8) (w : World) (o : ∃ A c, v = .slice A code.length c ∧ code.length ≤ c ∧ c ≤ maxLen ∧ Rd w 1 A code.length (bv code)) (tab : TabW w) :
  Calls Tryz.prog 3 #[v] w fun e w' => e = .returned (.bool true) ∧ Below w.heap.size w w' := by
 obtain ⟨A, c, rfl, hcl, hc, rd⟩ := o
 have RD := qh rd
 have TB := qh tab
 clear rd tab
 by_cases hb : 1048576 < code.length
 ·go_enter Tryz.func3, Tryz.ntmps3
  go_wp2_with fail
  refine (big_yes A code.length c _ hb).mono ?_
  rintro e w1 ⟨rfl, rfl⟩
  go_wp2_with fail
  go_ret
  exact ⟨rfl, Below.refl _ _⟩
 have DR : Hid (∀ W, Below w.heap.size w W → Calls Tryz.prog 5 #[.slice A code.length c] W (RetDp W (drawnP code).procs)) := qh fun W bw => spec_DrawProg A c code W (RD.out.below bw) (by omega) hc
 obtain ⟨C, hC, cf⟩ := code_facts code
 have htp := (drawn_code code).2.1
 have hl4 := (drawn_code code).2.2.2
 generalize (drawnP code).procs = L at *
 have HC := qh hC
 have CF := qh cf
 have htc := cf.tot
 have HNP := qh cf.nprocs
 have HNE := qh cf.nentry
 have hni := cf.nins
 have HTP := qh htp
 have HTC := qh htc
 clear hC cf htp htc
 go_enter Tryz.func3, Tryz.ntmps3
 go_wp2_with fail
 refine (big_no A code.length c _ hb).mono ?_
 rintro e w0 ⟨rfl, rfl⟩
 go_wp2_with fail
 refine (DR.out _ (Below.refl _ _)).mono ?_
 rintro e w1 ⟨gb1, lb1, b01, pA1, pc1, rfl, hc1, hd1, dp1, bw1⟩
 have I1 := qh (dp1.is hc1 hd1)
 have B1 := qh bw1
 have hz01 := bw1.size
 clear dp1 bw1
 go_wp2_with fail
 refine (impl_CodeOf ⟨glD, loN, L⟩ ⟨some ⟨gb1, 0, none⟩, 4, some ⟨lb1, 0, none⟩, 3, pA1, pc1⟩ _ (I1.out.belowA zB) HTP.out).mono ?_
 rintro e w2 ⟨⟨gA, gc, lA, lc, pA, pc, eA, ec, iA, ic⟩, rfl, ox, b2⟩
 rw [HC.out] at ox ⊢
 unfold V5.val
 simp only
 have BX1 : Hid (BoxB w2 w1.heap.size [.slice (some ⟨gb1, 0, none⟩) 4 4, .slice (some ⟨lb1, 0, none⟩) 3 3, .slice pA1 L.length pc1]) := qh (BoxB.below (BoxB.lit rfl) b2)
 have B12 : Hid (Below w1.heap.size w1 w2) := qh ((Below.alloc (Below.refl _ _) (Nat.le_refl _) _).trans (b2.mono (by simp)))
 have hz12 : w1.heap.size < w2.heap.size := by have := b2.size; simp at this; omega
 have B2 := qh (below_then B1.out B12.out)
 have X2 := qh ox.any
 replace I1 := qh (I1.out.belowA B12.out)
 clear ox b2 B12 B1
 go_wp2_with fail
 refine (DR.out _ (below_then B2.out (Below.alloc (Below.refl _ _) (Nat.le_refl _) _))).mono ?_
 rintro e w3 ⟨gb3, lb3, b03, pA3, pc3, rfl, hc3, hd3, dp3, bw3⟩
 have I3 := qh (dp3.is hc3 hd3)
 have B23 : Hid (Below w2.heap.size w2 w3) := qh ((Below.alloc (Below.refl _ _) (Nat.le_refl _) _).trans (bw3.mono (by simp)))
 have KB3 : Hid (Box5 w3 w2.heap.size ⟨gA, gc, lA, lc, pA, pc, eA, ec, iA, ic⟩ C) := qh ((Box5.new w2 ⟨gA, gc, lA, lc, pA, pc, eA, ec, iA, ic⟩ C 32).below bw3)
 have hz23 : w2.heap.size < w3.heap.size := by have := bw3.size; simp at this; omega
 clear dp3 bw3
 go_wp2_with fail
 refine (spec_CodeOf ⟨glD, loN, L⟩ ⟨some ⟨gb3, 0, none⟩, 4, some ⟨lb3, 0, none⟩, 3, pA3, pc3⟩ _ I3.out HTP.out).mono ?_
 rintro e w4 ⟨⟨gA', gc', lA', lc', pA', pc', eA', ec', iA', ic'⟩, rfl, oy, b4⟩
 rw [HC.out] at oy ⊢
 unfold V5.val
 simp only
 have B24 := qh (below_then B23.out b4)
 have hz4 := b4.size
 obtain ⟨W, hW⟩ : ∃ W, w4.alloc (.cells #[.slice gA' C.globals.length gc', .slice lA' C.locks.length lc', .slice pA' C.procs.length pc', .slice eA' C.entry.length ec', .slice iA' C.ins.length ic'] 32) = W := ⟨_, rfl⟩
 have BW4 : Hid (Below w4.heap.size w4 W) := qh (by rw [← hW]; exact Below.alloc (Below.refl _ _) (Nat.le_refl _) _)
 have WB : Hid (Box5 W w4.heap.size ⟨gA', gc', lA', lc', pA', pc', eA', ec', iA', ic'⟩ C) := qh (by rw [← hW]; exact Box5.new w4 ⟨gA', gc', lA', lc', pA', pc', eA', ec', iA', ic'⟩ C 32)
 have KB := qh ((KB3.out.below b4).below BW4.out)
 have BW2 := qh (below_then B24.out BW4.out)
 have XW := qh (X2.out.belowA BW2.out)
 have YW := qh (oy.any.belowA BW4.out)
 have IW := qh (I1.out.belowA BW2.out)
 have PB := qh (BX1.out.below BW2.out)
 have BW := qh (below_then B2.out BW2.out)
 have TW := qh (TB.out.below BW.out)
 have hwb : w.heap.size < w1.heap.size + 1 := by omega
 generalize hkb : w2.heap.size = kb at *
 generalize hwb : w4.heap.size = wb at *
 generalize hpb : w1.heap.size = pb at *
 have hzW : wb < W.heap.size := cell_lt WB.out.1
 clear oy b4 B24 KB3 X2 B2 I1 BX1 I3 B23 BW4 BW2 hz23 DR TB
 obtain ⟨k0, k1, k2, k3, k4⟩ := KB.out
 obtain ⟨m0, m1, m2, m3, m4⟩ := WB.out
 simp only at k0 k1 k2 k3 k4 m0 m1 m2 m3 m4
 go_wp2_with fail
 clear hW k0 k1 k2 k3 k4 m0 m1 m2 m3 m4
 refine (impl_CodeOk C ⟨gA, gc, lA, lc, pA, pc, eA, ec, iA, ic⟩ _ XW.out HTC.out).mono ?_
 rintro e w6 ⟨rfl, b6⟩
 rw [decP_yes CF.out.ok]
 have W6 := qh b6
 clear b6
 obtain ⟨k0, k1, k2, k3, k4⟩ := KB.out.below W6.out
 obtain ⟨m0, m1, m2, m3, m4⟩ := WB.out.below W6.out
 simp only at k0 k1 k2 k3 k4 m0 m1 m2 m3 m4
 go_wp2_with fail
 refine (laws_sameCode C ⟨gA, gc, lA, lc, pA, pc, eA, ec, iA, ic⟩ ⟨gA', gc', lA', lc', pA', pc', eA', ec', iA', ic'⟩ _ (XW.out.belowA W6.out) (YW.out.belowA W6.out)).mono ?_
 rintro e w7 ⟨rfl, b7⟩
 have W7 := qh (below_then W6.out b7)
 clear W6 b7 k0 k1 k2 k3 k4 m0 m1 m2 m3 m4
 obtain ⟨m0, m1, m2, m3, m4⟩ := WB.out.below W7.out
 simp only at m0 m1 m2 m3 m4
 go_wp2_with fail
 clear m0 m1 m2 m3 m4
 go_loopw [8] (fun i wr => ∃ j : Nat, j ≤ C.procs.length ∧ i = .int .i64 j ∧ Hid (Below W.heap.size W wr)) (fun i _ => C.procs.length - (intOf i).toNat)
 case atStart => exact ⟨0, Nat.zero_le _, rfl, W7⟩
 case round =>
  obtain ⟨j, hj, rfl, HB⟩ := hrel
  have h0j : (0 : Int) ≤ (j : Int) := by omega
  obtain ⟨k0, k1, k2, k3, k4⟩ := KB.out.below HB.out
  obtain ⟨m0, m1, m2, m3, m4⟩ := WB.out.below HB.out
  simp only at k0 k1 k2 k3 k4 m0 m1 m2 m3 m4
  by_cases hlt : j < C.procs.length
  ·have h1j : (j : Int) < (C.procs.length : Int) := by omega
   have hle : j < C.entry.length := by have := HNE.out; have := HNP.out; omega
   have hlL : j < L.length := by have := HNP.out; omega
   have h2j : (j : Int) < (C.entry.length : Int) := by omega
   have h3j : (j : Int) < (L.length : Int) := by omega
   obtain ⟨b, f, pa⟩ := CF.out.at' j hlL
   have PA := qh pa
   have hfl := pa.lt
   have hbf := pa.le
   have h0f : (0 : Int) ≤ (f : Int) := by omega
   have h1f : (f : Int) < (C.ins.length : Int) := by omega
   clear pa
   go_wp2_with fail
   refine (impl_EndOf C ⟨gA, gc, lA, lc, pA, pc, eA, ec, iA, ic⟩ _ (XW.out.belowA HB.out) HTC.out (j : Int)).mono ?_
   rintro e w8 ⟨rfl, b8⟩
   rw [PA.out.fin]
   have H8 := qh (below_then HB.out b8)
   clear b8 k0 k1 k2 k3 k4 m0 m1 m2 m3 m4
   obtain ⟨nb, no, e1, nc⟩ := rd_str YW.out.p3 hlt
   obtain ⟨eb, eo, e2, ecell⟩ := rd_int YW.out.e3 hle
   obtain ⟨ib, io, ⟨yo, ya, yk, yn, ys, yA, ym, yc, yt⟩, e3, -, ⟨d0, -⟩, ⟨ho, -⟩⟩ := rd_ins YW.out.i3 hfl
   obtain ⟨qb, qo, ⟨xs, xA, xm, xc⟩, e4, q0, -, ⟨hn, -⟩⟩ := rd_proc IW.out.p3 hlL
   simp only at e1 e2 e3 e4 d0 ho q0 hn
   rw [CF.out.name j hlL hlt, hn] at nc
   rw [PA.out.ent hle] at ecell
   rw [PA.out.op hfl] at ho
   subst e1 e2 e3 e4 ho
   clear hn
   have NC := qh (cell_keep H8.out nc)
   have EC := qh (cell_keep H8.out ecell)
   have DC := qh (cell_keep H8.out d0)
   have QC := qh (cell_keep H8.out q0)
   have P8 := qh (PB.out.below H8.out)
   clear nc ecell d0 q0
   have nc := NC.out
   have ecell := EC.out
   have d0 := DC.out
   have q0 := QC.out
   have p2 := P8.out 2 _ rfl
   obtain ⟨m0, m1, m2, m3, m4⟩ := WB.out.below H8.out
   simp only at m0 m1 m2 m3 m4
   have hfb : decide ((f : Int) < (b : Int)) = false := decide_no (by omega)
   go_wp2_with fail
   go_quiet (fail)
   go_wp2_with fail
   have HBQ := qh (below_drewN H8.out nq)
   clear nc ecell d0 q0 p2 m0 m1 m2 m3 m4 NC EC DC QC P8
   go_loopw [10] (fun a wq => ∃ k : Nat, b ≤ k ∧ k ≤ f + 1 ∧ a = .int .i64 k ∧ Hid (Below W.heap.size W wq)) (fun a _ => f + 1 - (intOf a).toNat)
   case atStart => exact ⟨b, Nat.le_refl _, by omega, rfl, HBQ⟩
   case round =>
    rename World => wq
    obtain ⟨k, hk1, hk2, rfl, HB2⟩ := hrel
    by_cases hkf : k ≤ f
    ·have hkI : (k : Int) ≤ (f : Int) := by omega
     have hkl : k < C.ins.length := by omega
     have hS1 := line_not C C.ins[k] k
     have QP : Hid (∀ m : World, Below W.heap.size W m → Calls Tryz.prog 11 #[V5.val ⟨gA, gc, lA, lc, pA, pc, eA, ec, iA, ic⟩ C, .int .i64 (k : Int)] m fun e w' => e = .returned (.int .i64 (j : Int)) ∧ Below m.heap.size m w') := qh (fun m h => by
      have t := impl_ProcOf C ⟨gA, gc, lA, lc, pA, pc, eA, ec, iA, ic⟩ m (XW.out.belowA h) HTC.out (k : Int)
      rwa [PA.out.proc k hk1 hkf] at t)
     have QI := qh (fun (m : World) (h : Below W.heap.size W m) => impl_InsLine_yes C ⟨gA, gc, lA, lc, pA, pc, eA, ec, iA, ic⟩ m (XW.out.belowA h) HTC.out CF.out.ok k hkl (TW.out.below h))
     have QS := qh (fun (m : World) (h : Below W.heap.size W m) => spec_InsLine_yes C ⟨gA', gc', lA', lc', some ⟨nb, no, none⟩, pc', some ⟨eb, eo, none⟩, ec', some ⟨ib, io, none⟩, ic'⟩ m (YW.out.belowA h) HTC.out CF.out.ok k hkl)
     generalize (⟨(lineL C C.ins[k] k).toArray⟩ : ByteArray) = SL at *
     go_wp2_with fail
     refine wp_region_later (by kernel_rfl) (by kernel_rfl) ?_
     intro gw hgw hcw
     have HG := qh hgw
     have HC := qh hcw
     clear hgw hcw
     obtain ⟨k0, k1, k2, k3, k4⟩ := all5 (fun n => KB.out.below (below_then HB2.out (HG.out n)))
     obtain ⟨m0, m1, m2, m3, m4⟩ := all5 (fun n => WB.out.below (below_then HB2.out (HG.out n)))
     simp only at k0 k1 k2 k3 k4 m0 m1 m2 m3 m4
     repeat (go_big_quiet_step ((first | (go_at_call 11; exact later_of HC (QP.out _ (below_then HB2.out (HG.out _)))) | (go_at_call 12; exact later_of HC (QI.out _ (below_then HB2.out (HG.out _)))) | (go_at_call 13; exact later_of HC (QS.out _ (below_then HB2.out (HG.out _)))))))
     refine wpQuiet_nil ?_
     intro _ hw'
     obtain ⟨nq, hw''⟩ := hw'
     subst hw''
     clear k0 k1 k2 k3 k4 m0 m1 m2 m3 m4
     have HBN := qh (below_then HB2.out (HG.out nq))
     go_wp2_with fail
     go_roundw
     case rel => exact ⟨k + 1, by omega, by omega, by go_num, HBN⟩
     case measure => simp [intOf]; omega
    ·have hkI : ¬ (k : Int) ≤ (f : Int) := by omega
     go_wp2_with fail
     go_roundw
     case rel => exact ⟨j + 1, by omega, by go_num, HB2⟩
     case measure => simp [intOf]; omega
  ·have h1j : ¬ (j : Int) < (C.procs.length : Int) := by omega
   have h0n : (0 : Int) ≤ (C.ins.length : Int) := by omega
   go_wp2_with fail
   refine (impl_ProcOf C ⟨gA, gc, lA, lc, pA, pc, eA, ec, iA, ic⟩ _ (XW.out.belowA HB.out) HTC.out (C.ins.length : Int)).mono ?_
   rintro e w8 ⟨rfl, b8⟩
   rw [CF.out.procLen]
   have H8 := qh (below_then HB.out b8)
   clear b8 k0 k1 k2 k3 k4 m0 m1 m2 m3 m4
   obtain ⟨k0, k1, k2, k3, k4⟩ := KB.out.below H8.out
   simp only at k0 k1 k2 k3 k4
   go_wp2_with fail
   refine (impl_InsLine_no C ⟨gA, gc, lA, lc, pA, pc, eA, ec, iA, ic⟩ _ (XW.out.belowA H8.out) (-1) (by unfold inB; simp)).mono ?_
   rintro e w9 ⟨rfl, b9⟩
   have H9 := qh (below_then BW.out (below_then H8.out b9))
   clear b9 k0 k1 k2 k3 k4
   go_wp2_with fail
   go_ret
   exact ⟨rfl, H9.out⟩
end Go.Proofs.YtnmblfonmfjoeaaGreatDoor
