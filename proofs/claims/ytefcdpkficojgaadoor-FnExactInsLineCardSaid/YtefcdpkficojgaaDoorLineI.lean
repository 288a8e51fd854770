/- InsLine in the program, one walk for each operation. -/
import Derived.Test.YtefcdpkficojgaaDoorLineS
namespace Go.Proofs.YtefcdpkficojgaaDoor
open Go.RowKit
set_option linter.unusedVariables false

set_option maxHeartbeats 3200000 in
set_option maxRecDepth 100000 in
theorem impl_InsLine_1 (p : Cd) (x : V5) (w : World) (hp : CdIs w x p) (htot : totCd p ≤ 1048576) (hk : CodOk p) (j : Nat) (hj : j < p.ins.length) (hop : p.ins[j].op = 1) (tab : TabW w) :
    Calls Tryd.prog 38 #[x.val p, .int .i64 (j : Int)] w fun e w' => e = .returned (.string ⟨(lineL p p.ins[j] j).toArray⟩) ∧ Below w.heap.size w w' := by
  obtain ⟨gA, gc, lA, lc, pA, pc, eA, ec, iA, ic⟩ := x
  obtain ⟨b, off, ⟨yo, ya, yk, yn, ys, yA, ym, yc, yt⟩, e1, _, _, hI⟩ := rd_ins hp.i3 hj
  simp only at e1
  subst e1
  have HP := Lib.hid hp
  have hgl := hp.g1
  have hgc := hp.g2
  have hll := hp.l1
  have hlc := hp.l2
  have hpl := hp.p1
  have hpc := hp.p2
  have hel := hp.e1
  have hec := hp.e2
  have hil := hp.i1
  have hic := hp.i2
  simp only at hgl hgc hll hlc hpl hpc hel hec hil hic
  unfold maxLen at hgc hlc hpc hec hic
  have HK := Lib.hid hk
  have H1 := Lib.hid (decP_yes hk)
  obtain ⟨ho, ha, hto, io, ia, ito, hT⟩ := hI
  simp only [V7.term] at ho ha hto io ia ito hT
  have IN := Lib.hid (ins_in hk hj).2
  have h0j : (0 : Int) ≤ (j : Int) := by omega
  have h1j : (j : Int) < (p.ins.length : Int) := by omega
  have q2 : inB (j : Int) 0 ((p.ins.length : Int) - 1) = true := inBi_yes (by omega) (by omega)
  have HR := Lib.hid hp.i3
  have HQ := Lib.hid hp
  clear hp hk hT ho ha hto
  unfold V5.val
  simp only
  have TB := Lib.hid tab
  clear tab
  obtain ⟨an, han⟩ : ∃ an : Nat, p.ins[j].arg = (an : Int) := ⟨p.ins[j].arg.toNat, by have := (inB_dest IN.out).1; omega⟩
  have hal : an < p.globals.length := by
    have := (inB_dest IN.out).2
    rw [hop, han, show mostC p 1 = (p.globals.length : Int) - 1 from rfl] at this
    omega
  have hsm := name_small (nam_g HK.out.head.nam) hal
  have h0a : (0 : Int) ≤ (an : Int) := by omega
  have h1a : (an : Int) < (p.globals.length : Int) := by omega
  have HAN := Lib.hid han
  obtain ⟨F, hF⟩ : ∃ F : ByteArray, ⟨(lineL p p.ins[j] j).toArray⟩ = F := ⟨_, rfl⟩
  have FS : Hid ((⟨(Lib.itoa (j : Int)).toArray⟩ : ByteArray) ++ (⟨#[32]⟩ : ByteArray) ++ (⟨#[115, 101, 116, 32]⟩ : ByteArray) ++ p.globals[an] ++ (⟨#[32, 61, 32]⟩ : ByteArray) ++ ⟨(txtR p.ins[j].term).toArray⟩ = F) := Lib.hid (by
    rw [← hF, lineL, restL_1 hop, HAN.out, nmAt_get hal]
    apply str_ext
    simp)
  rw [hF]
  clear hF
  have hjl := itoa_20 (j : Int) (by omega) (by omega)
  have hxl := txtR_len p.ins[j].term
  have HO := Lib.hid hop
  clear hop io ia han
  go_enter Tryd.func38, Tryd.ntmps38
  go_wp2_with fail
  refine (impl_isPlace p ⟨gA, gc, lA, lc, pA, pc, eA, ec, some ⟨b, off, none⟩, ic⟩ _ (HQ.out.belowA (by repeat' (first | exact Below.refl _ _ | exact Nat.le_refl _ | (refine Below.alloc ?_ ?_ _) | (refine Below.setCell ?_ ?_ _) | (refine Below.drew ?_) | (refine below_drewN ?_ _) | assumption | (simp; done) | (simp; omega)))) (j : Int)).mono ?_
  rintro e w1 ⟨rfl, b1⟩
  have BA := Lib.hid (Below.trans (by repeat' (first | exact Below.refl _ _ | exact Nat.le_refl _ | (refine Below.alloc ?_ ?_ _) | (refine Below.setCell ?_ ?_ _) | (refine Below.drew ?_) | (refine below_drewN ?_ _) | assumption | (simp; done) | (simp; omega))) (b1.mono (by simp)) : Below w.heap.size w w1)
  have BXA := Lib.hid ((Box5.new w ⟨gA, gc, lA, lc, pA, pc, eA, ec, some ⟨b, off, none⟩, ic⟩ p 59).below b1)
  rw [q2]
  clear b1
  obtain ⟨p0, p1, p2, p3, p4⟩ := BXA.out
  simp only at p0 p1 p2 p3 p4
  go_wp2_with fail
  refine (impl_CodeOk p ⟨gA, gc, lA, lc, pA, pc, eA, ec, some ⟨b, off, none⟩, ic⟩ _ (HQ.out.belowA BA.out) htot).mono ?_
  rintro e w2 ⟨rfl, b1⟩
  have BB := Lib.hid (below_then BA.out b1)
  have BX := Lib.hid (BXA.out.below b1)
  rw [H1.out]
  clear b1 p0 p1 p2 p3 p4
  obtain ⟨p0, p1, p2, p3, p4⟩ := BX.out
  simp only at p0 p1 p2 p3 p4
  obtain ⟨b', off', ⟨yo', ya', yk', yn', ys', yA', ym', yc', yt'⟩, e1, _, ⟨d0, d1, d2, d3, d4, d5, d6⟩, hI⟩ := rd_ins (HR.out.belowA BB.out) hj
  injection e1 with e1
  injection e1 with e2 e3
  subst e2 e3
  obtain ⟨ho, ha, hto, _, _, _, hT⟩ := hI
  simp only [V7.term] at ho ha hto hT d0 d1 d2 d3 d4 d5 d6
  rw [HO.out] at ho
  subst ho ha hto
  have HT := Lib.hid hT
  have CX0 := Lib.hid (Cells7.new w2 ⟨1, p.ins[j].arg, yk', yn', ys', yA', ym', yc', p.ins[j].to⟩ 130)
  clear hT
  go_wp2_with fail
  refine (impl_Decimal (j : Int) (by omega) (by omega) _ (TB.out.below (below_then BB.out (Below.alloc (Below.refl _ _) (Nat.le_refl _) _)))).mono ?_
  rintro e w4 ⟨rfl, b4⟩
  have B4 := Lib.hid (below_then BB.out (Below.trans (Below.alloc (Below.refl _ _) (Nat.le_refl _) _) (b4.mono (by simp))))
  have BX4 := Lib.hid (BX.out.below (Below.trans (Below.alloc (Below.refl _ _) (Nat.le_refl _) _) (b4.mono (by simp))))
  have CX4 := Lib.hid (CX0.out.below b4)
  have HT4 := Lib.hid (HT.out.belowA (Below.trans (Below.alloc (Below.refl _ _) (Nat.le_refl _) _) (b4.mono (by simp))))
  clear b4 d0 d1 d2 d3 d4 d5 d6 p0 p1 p2 p3 p4 BX CX0 HT
  generalize Lib.itoa (j : Int) = J at *
  obtain ⟨nb, noff, e1, ncell⟩ := rd_str (HQ.out.belowA B4.out).g3 hal
  simp only at e1
  subst e1
  generalize hnm : p.globals[an] = nm at *
  have NC := Lib.hid ncell
  have HNM := Lib.hid hnm
  clear hnm
  obtain ⟨p0, p1, p2, p3, p4⟩ := BX4.out
  obtain ⟨r0, r1, r2, r3, r4, r5, r6⟩ := CX4.out
  simp only at p0 p1 p2 p3 p4 r0 r1 r2 r3 r4 r5 r6
  rw [HAN.out] at r1
  go_wp2_with fail
  clear p0 p1 p2 p3 p4 r0 r1 r2 r3 r4 r5 r6 ncell
  refine wp_region_later (by kernel_rfl) (by kernel_rfl) ?_
  intro gw hgw hcw
  have HG := Lib.hid hgw
  have HC := Lib.hid hcw
  clear hgw hcw
  have P := Lib.hid (fun n => BX4.out.below (HG.out n))
  have C := Lib.hid (fun n => CX4.out.below (HG.out n))
  have p0 : ∀ n, (gw n).cell? ⟨w.heap.size, 0, none⟩ = some (.slice (some ⟨nb, noff, none⟩) p.globals.length gc) := fun n => (P.out n).1
  have p1 : ∀ n, (gw n).cell? ⟨w.heap.size, 1, none⟩ = some (.slice lA p.locks.length lc) := fun n => (P.out n).2.1
  have p2 : ∀ n, (gw n).cell? ⟨w.heap.size, 2, none⟩ = some (.slice pA p.procs.length pc) := fun n => (P.out n).2.2.1
  have r0 : ∀ n, (gw n).cell? ⟨w2.heap.size, 0, none⟩ = some (.int .i64 1) := fun n => (C.out n).1
  have r1 : ∀ n, (gw n).cell? ⟨w2.heap.size, 1, none⟩ = some (.int .i64 (an : Int)) := fun n => by rw [← HAN.out]; exact (C.out n).2.1
  have r2 : ∀ n, (gw n).cell? ⟨w2.heap.size, 2, none⟩ = some (.int .i64 yk') := fun n => (C.out n).2.2.1
  have r3 : ∀ n, (gw n).cell? ⟨w2.heap.size, 3, none⟩ = some (.int .i64 yn') := fun n => (C.out n).2.2.2.1
  have r4 : ∀ n, (gw n).cell? ⟨w2.heap.size, 4, none⟩ = some (.string ys') := fun n => (C.out n).2.2.2.2.1
  have r5 : ∀ n, (gw n).cell? ⟨w2.heap.size, 5, none⟩ = some (.slice yA' ym' yc') := fun n => (C.out n).2.2.2.2.2.1
  have r6 : ∀ n, (gw n).cell? ⟨w2.heap.size, 6, none⟩ = some (.int .i64 p.ins[j].to) := fun n => (C.out n).2.2.2.2.2.2
  have nc : ∀ n, (gw n).cell? ⟨nb, noff + an, none⟩ = some (.string nm) := fun n => cell_keep (HG.out n) NC.out
  have QT := Lib.hid (fun m => impl_TermText p.ins[j].term yk' yn' ys' yA' ym' yc' (gw m) (HT4.out.belowA (HG.out m)) (TB.out.below (below_then B4.out (HG.out m))))
  generalize txtR p.ins[j].term = T at *
  repeat (go_big_quiet_step ((first | (go_at_call 41; exact later_of HC (QT.out _)))))
  refine wpQuiet_nil ?_
  intro _ hw'
  obtain ⟨nq, hw''⟩ := hw'
  subst hw''
  clear p0 p1 p2 r0 r1 r2 r3 r4 r5 r6 nc
  go_wp2_with fail
  go_ret
  exact ⟨ret_str FS.out, below_then B4.out (HG.out _)⟩
set_option maxHeartbeats 3200000 in
set_option maxRecDepth 100000 in
theorem impl_InsLine_2 (p : Cd) (x : V5) (w : World) (hp : CdIs w x p) (htot : totCd p ≤ 1048576) (hk : CodOk p) (j : Nat) (hj : j < p.ins.length) (hop : p.ins[j].op = 2) (tab : TabW w) :
    Calls Tryd.prog 38 #[x.val p, .int .i64 (j : Int)] w fun e w' => e = .returned (.string ⟨(lineL p p.ins[j] j).toArray⟩) ∧ Below w.heap.size w w' := by
  obtain ⟨gA, gc, lA, lc, pA, pc, eA, ec, iA, ic⟩ := x
  obtain ⟨b, off, ⟨yo, ya, yk, yn, ys, yA, ym, yc, yt⟩, e1, _, _, hI⟩ := rd_ins hp.i3 hj
  simp only at e1
  subst e1
  have HP := Lib.hid hp
  have hgl := hp.g1
  have hgc := hp.g2
  have hll := hp.l1
  have hlc := hp.l2
  have hpl := hp.p1
  have hpc := hp.p2
  have hel := hp.e1
  have hec := hp.e2
  have hil := hp.i1
  have hic := hp.i2
  simp only at hgl hgc hll hlc hpl hpc hel hec hil hic
  unfold maxLen at hgc hlc hpc hec hic
  have HK := Lib.hid hk
  have H1 := Lib.hid (decP_yes hk)
  obtain ⟨ho, ha, hto, io, ia, ito, hT⟩ := hI
  simp only [V7.term] at ho ha hto io ia ito hT
  have IN := Lib.hid (ins_in hk hj).2
  have h0j : (0 : Int) ≤ (j : Int) := by omega
  have h1j : (j : Int) < (p.ins.length : Int) := by omega
  have q2 : inB (j : Int) 0 ((p.ins.length : Int) - 1) = true := inBi_yes (by omega) (by omega)
  have HR := Lib.hid hp.i3
  have HQ := Lib.hid hp
  clear hp hk hT ho ha hto
  unfold V5.val
  simp only
  have TB := Lib.hid tab
  clear tab
  obtain ⟨F, hF⟩ : ∃ F : ByteArray, ⟨(lineL p p.ins[j] j).toArray⟩ = F := ⟨_, rfl⟩
  have FS : Hid ((⟨(Lib.itoa (j : Int)).toArray⟩ : ByteArray) ++ (⟨#[32]⟩ : ByteArray) ++ (⟨#[116, 101, 115, 116, 32]⟩ : ByteArray) ++ ⟨(txtR p.ins[j].term).toArray⟩ ++ (⟨#[32, 101, 108, 115, 101, 32]⟩ : ByteArray) ++ ⟨(Lib.itoa p.ins[j].to).toArray⟩ = F) := Lib.hid (by
    rw [← hF, lineL, restL_2 hop]
    apply str_ext
    simp)
  rw [hF]
  clear hF
  have htl := itoa_20 p.ins[j].to ito.1 ito.2
  have hjl := itoa_20 (j : Int) (by omega) (by omega)
  have hxl := txtR_len p.ins[j].term
  have HO := Lib.hid hop
  clear hop io ia
  go_enter Tryd.func38, Tryd.ntmps38
  go_wp2_with fail
  refine (impl_isPlace p ⟨gA, gc, lA, lc, pA, pc, eA, ec, some ⟨b, off, none⟩, ic⟩ _ (HQ.out.belowA (by repeat' (first | exact Below.refl _ _ | exact Nat.le_refl _ | (refine Below.alloc ?_ ?_ _) | (refine Below.setCell ?_ ?_ _) | (refine Below.drew ?_) | (refine below_drewN ?_ _) | assumption | (simp; done) | (simp; omega)))) (j : Int)).mono ?_
  rintro e w1 ⟨rfl, b1⟩
  have BA := Lib.hid (Below.trans (by repeat' (first | exact Below.refl _ _ | exact Nat.le_refl _ | (refine Below.alloc ?_ ?_ _) | (refine Below.setCell ?_ ?_ _) | (refine Below.drew ?_) | (refine below_drewN ?_ _) | assumption | (simp; done) | (simp; omega))) (b1.mono (by simp)) : Below w.heap.size w w1)
  have BXA := Lib.hid ((Box5.new w ⟨gA, gc, lA, lc, pA, pc, eA, ec, some ⟨b, off, none⟩, ic⟩ p 59).below b1)
  rw [q2]
  clear b1
  obtain ⟨p0, p1, p2, p3, p4⟩ := BXA.out
  simp only at p0 p1 p2 p3 p4
  go_wp2_with fail
  refine (impl_CodeOk p ⟨gA, gc, lA, lc, pA, pc, eA, ec, some ⟨b, off, none⟩, ic⟩ _ (HQ.out.belowA BA.out) htot).mono ?_
  rintro e w2 ⟨rfl, b1⟩
  have BB := Lib.hid (below_then BA.out b1)
  have BX := Lib.hid (BXA.out.below b1)
  rw [H1.out]
  clear b1 p0 p1 p2 p3 p4
  obtain ⟨p0, p1, p2, p3, p4⟩ := BX.out
  simp only at p0 p1 p2 p3 p4
  obtain ⟨b', off', ⟨yo', ya', yk', yn', ys', yA', ym', yc', yt'⟩, e1, _, ⟨d0, d1, d2, d3, d4, d5, d6⟩, hI⟩ := rd_ins (HR.out.belowA BB.out) hj
  injection e1 with e1
  injection e1 with e2 e3
  subst e2 e3
  obtain ⟨ho, ha, hto, _, _, _, hT⟩ := hI
  simp only [V7.term] at ho ha hto hT d0 d1 d2 d3 d4 d5 d6
  rw [HO.out] at ho
  subst ho ha hto
  have HT := Lib.hid hT
  have CX0 := Lib.hid (Cells7.new w2 ⟨2, p.ins[j].arg, yk', yn', ys', yA', ym', yc', p.ins[j].to⟩ 130)
  clear hT
  go_wp2_with fail
  refine (impl_Decimal (j : Int) (by omega) (by omega) _ (TB.out.below (below_then BB.out (Below.alloc (Below.refl _ _) (Nat.le_refl _) _)))).mono ?_
  rintro e w4 ⟨rfl, b4⟩
  have B4 := Lib.hid (below_then BB.out (Below.trans (Below.alloc (Below.refl _ _) (Nat.le_refl _) _) (b4.mono (by simp))))
  have BX4 := Lib.hid (BX.out.below (Below.trans (Below.alloc (Below.refl _ _) (Nat.le_refl _) _) (b4.mono (by simp))))
  have CX4 := Lib.hid (CX0.out.below b4)
  have HT4 := Lib.hid (HT.out.belowA (Below.trans (Below.alloc (Below.refl _ _) (Nat.le_refl _) _) (b4.mono (by simp))))
  clear b4 d0 d1 d2 d3 d4 d5 d6 p0 p1 p2 p3 p4 BX CX0 HT
  generalize Lib.itoa (j : Int) = J at *
  obtain ⟨p0, p1, p2, p3, p4⟩ := BX4.out
  obtain ⟨r0, r1, r2, r3, r4, r5, r6⟩ := CX4.out
  simp only at p0 p1 p2 p3 p4 r0 r1 r2 r3 r4 r5 r6
  go_wp2_with fail
  clear p0 p1 p2 p3 p4 r0 r1 r2 r3 r4 r5 r6
  refine wp_region_later (by kernel_rfl) (by kernel_rfl) ?_
  intro gw hgw hcw
  have HG := Lib.hid hgw
  have HC := Lib.hid hcw
  clear hgw hcw
  have P := Lib.hid (fun n => BX4.out.below (HG.out n))
  have C := Lib.hid (fun n => CX4.out.below (HG.out n))
  have p0 : ∀ n, (gw n).cell? ⟨w.heap.size, 0, none⟩ = some (.slice gA p.globals.length gc) := fun n => (P.out n).1
  have p1 : ∀ n, (gw n).cell? ⟨w.heap.size, 1, none⟩ = some (.slice lA p.locks.length lc) := fun n => (P.out n).2.1
  have p2 : ∀ n, (gw n).cell? ⟨w.heap.size, 2, none⟩ = some (.slice pA p.procs.length pc) := fun n => (P.out n).2.2.1
  have r0 : ∀ n, (gw n).cell? ⟨w2.heap.size, 0, none⟩ = some (.int .i64 2) := fun n => (C.out n).1
  have r1 : ∀ n, (gw n).cell? ⟨w2.heap.size, 1, none⟩ = some (.int .i64 p.ins[j].arg) := fun n => (C.out n).2.1
  have r2 : ∀ n, (gw n).cell? ⟨w2.heap.size, 2, none⟩ = some (.int .i64 yk') := fun n => (C.out n).2.2.1
  have r3 : ∀ n, (gw n).cell? ⟨w2.heap.size, 3, none⟩ = some (.int .i64 yn') := fun n => (C.out n).2.2.2.1
  have r4 : ∀ n, (gw n).cell? ⟨w2.heap.size, 4, none⟩ = some (.string ys') := fun n => (C.out n).2.2.2.2.1
  have r5 : ∀ n, (gw n).cell? ⟨w2.heap.size, 5, none⟩ = some (.slice yA' ym' yc') := fun n => (C.out n).2.2.2.2.2.1
  have r6 : ∀ n, (gw n).cell? ⟨w2.heap.size, 6, none⟩ = some (.int .i64 p.ins[j].to) := fun n => (C.out n).2.2.2.2.2.2
  have QT := Lib.hid (fun m => impl_TermText p.ins[j].term yk' yn' ys' yA' ym' yc' (gw m) (HT4.out.belowA (HG.out m)) (TB.out.below (below_then B4.out (HG.out m))))
  have QD := Lib.hid (fun m => impl_Decimal p.ins[j].to ito.1 ito.2 (gw m) (TB.out.below (below_then B4.out (HG.out m))))
  generalize txtR p.ins[j].term = T at *
  generalize Lib.itoa p.ins[j].to = D at *
  repeat (go_big_quiet_step ((first | (go_at_call 41; exact later_of HC (QT.out _)) | (go_at_call 96; exact later_of HC (QD.out _)))))
  refine wpQuiet_nil ?_
  intro _ hw'
  obtain ⟨nq, hw''⟩ := hw'
  subst hw''
  clear p0 p1 p2 r0 r1 r2 r3 r4 r5 r6
  go_wp2_with fail
  go_ret
  exact ⟨ret_str FS.out, below_then B4.out (HG.out _)⟩
set_option maxHeartbeats 3200000 in
set_option maxRecDepth 100000 in
theorem impl_InsLine_3 (p : Cd) (x : V5) (w : World) (hp : CdIs w x p) (htot : totCd p ≤ 1048576) (hk : CodOk p) (j : Nat) (hj : j < p.ins.length) (hop : p.ins[j].op = 3) (tab : TabW w) :
    Calls Tryd.prog 38 #[x.val p, .int .i64 (j : Int)] w fun e w' => e = .returned (.string ⟨(lineL p p.ins[j] j).toArray⟩) ∧ Below w.heap.size w w' := by
  obtain ⟨gA, gc, lA, lc, pA, pc, eA, ec, iA, ic⟩ := x
  obtain ⟨b, off, ⟨yo, ya, yk, yn, ys, yA, ym, yc, yt⟩, e1, _, _, hI⟩ := rd_ins hp.i3 hj
  simp only at e1
  subst e1
  have HP := Lib.hid hp
  have hgl := hp.g1
  have hgc := hp.g2
  have hll := hp.l1
  have hlc := hp.l2
  have hpl := hp.p1
  have hpc := hp.p2
  have hel := hp.e1
  have hec := hp.e2
  have hil := hp.i1
  have hic := hp.i2
  simp only at hgl hgc hll hlc hpl hpc hel hec hil hic
  unfold maxLen at hgc hlc hpc hec hic
  have HK := Lib.hid hk
  have H1 := Lib.hid (decP_yes hk)
  obtain ⟨ho, ha, hto, io, ia, ito, hT⟩ := hI
  simp only [V7.term] at ho ha hto io ia ito hT
  have IN := Lib.hid (ins_in hk hj).2
  have h0j : (0 : Int) ≤ (j : Int) := by omega
  have h1j : (j : Int) < (p.ins.length : Int) := by omega
  have q2 : inB (j : Int) 0 ((p.ins.length : Int) - 1) = true := inBi_yes (by omega) (by omega)
  have HR := Lib.hid hp.i3
  have HQ := Lib.hid hp
  clear hp hk hT ho ha hto
  unfold V5.val
  simp only
  have TB := Lib.hid tab
  clear tab
  obtain ⟨F, hF⟩ : ∃ F : ByteArray, ⟨(lineL p p.ins[j] j).toArray⟩ = F := ⟨_, rfl⟩
  have FS : Hid ((⟨(Lib.itoa (j : Int)).toArray⟩ : ByteArray) ++ (⟨#[32]⟩ : ByteArray) ++ (⟨#[106, 117, 109, 112, 32]⟩ : ByteArray) ++ ⟨(Lib.itoa p.ins[j].to).toArray⟩ = F) := Lib.hid (by
    rw [← hF, lineL, restL_3 hop]
    apply str_ext
    simp)
  rw [hF]
  clear hF
  have htl := itoa_20 p.ins[j].to ito.1 ito.2
  have hjl := itoa_20 (j : Int) (by omega) (by omega)
  have hxl := txtR_len p.ins[j].term
  have HO := Lib.hid hop
  clear hop io ia
  go_enter Tryd.func38, Tryd.ntmps38
  go_wp2_with fail
  refine (impl_isPlace p ⟨gA, gc, lA, lc, pA, pc, eA, ec, some ⟨b, off, none⟩, ic⟩ _ (HQ.out.belowA (by repeat' (first | exact Below.refl _ _ | exact Nat.le_refl _ | (refine Below.alloc ?_ ?_ _) | (refine Below.setCell ?_ ?_ _) | (refine Below.drew ?_) | (refine below_drewN ?_ _) | assumption | (simp; done) | (simp; omega)))) (j : Int)).mono ?_
  rintro e w1 ⟨rfl, b1⟩
  have BA := Lib.hid (Below.trans (by repeat' (first | exact Below.refl _ _ | exact Nat.le_refl _ | (refine Below.alloc ?_ ?_ _) | (refine Below.setCell ?_ ?_ _) | (refine Below.drew ?_) | (refine below_drewN ?_ _) | assumption | (simp; done) | (simp; omega))) (b1.mono (by simp)) : Below w.heap.size w w1)
  have BXA := Lib.hid ((Box5.new w ⟨gA, gc, lA, lc, pA, pc, eA, ec, some ⟨b, off, none⟩, ic⟩ p 59).below b1)
  rw [q2]
  clear b1
  obtain ⟨p0, p1, p2, p3, p4⟩ := BXA.out
  simp only at p0 p1 p2 p3 p4
  go_wp2_with fail
  refine (impl_CodeOk p ⟨gA, gc, lA, lc, pA, pc, eA, ec, some ⟨b, off, none⟩, ic⟩ _ (HQ.out.belowA BA.out) htot).mono ?_
  rintro e w2 ⟨rfl, b1⟩
  have BB := Lib.hid (below_then BA.out b1)
  have BX := Lib.hid (BXA.out.below b1)
  rw [H1.out]
  clear b1 p0 p1 p2 p3 p4
  obtain ⟨p0, p1, p2, p3, p4⟩ := BX.out
  simp only at p0 p1 p2 p3 p4
  obtain ⟨b', off', ⟨yo', ya', yk', yn', ys', yA', ym', yc', yt'⟩, e1, _, ⟨d0, d1, d2, d3, d4, d5, d6⟩, hI⟩ := rd_ins (HR.out.belowA BB.out) hj
  injection e1 with e1
  injection e1 with e2 e3
  subst e2 e3
  obtain ⟨ho, ha, hto, _, _, _, hT⟩ := hI
  simp only [V7.term] at ho ha hto hT d0 d1 d2 d3 d4 d5 d6
  rw [HO.out] at ho
  subst ho ha hto
  have HT := Lib.hid hT
  have CX0 := Lib.hid (Cells7.new w2 ⟨3, p.ins[j].arg, yk', yn', ys', yA', ym', yc', p.ins[j].to⟩ 130)
  clear hT
  go_wp2_with fail
  refine (impl_Decimal (j : Int) (by omega) (by omega) _ (TB.out.below (below_then BB.out (Below.alloc (Below.refl _ _) (Nat.le_refl _) _)))).mono ?_
  rintro e w4 ⟨rfl, b4⟩
  have B4 := Lib.hid (below_then BB.out (Below.trans (Below.alloc (Below.refl _ _) (Nat.le_refl _) _) (b4.mono (by simp))))
  have BX4 := Lib.hid (BX.out.below (Below.trans (Below.alloc (Below.refl _ _) (Nat.le_refl _) _) (b4.mono (by simp))))
  have CX4 := Lib.hid (CX0.out.below b4)
  have HT4 := Lib.hid (HT.out.belowA (Below.trans (Below.alloc (Below.refl _ _) (Nat.le_refl _) _) (b4.mono (by simp))))
  clear b4 d0 d1 d2 d3 d4 d5 d6 p0 p1 p2 p3 p4 BX CX0 HT
  generalize Lib.itoa (j : Int) = J at *
  obtain ⟨p0, p1, p2, p3, p4⟩ := BX4.out
  obtain ⟨r0, r1, r2, r3, r4, r5, r6⟩ := CX4.out
  simp only at p0 p1 p2 p3 p4 r0 r1 r2 r3 r4 r5 r6
  go_wp2_with fail
  refine (impl_Decimal p.ins[j].to ito.1 ito.2 _ (TB.out.below B4.out)).mono ?_
  rintro e w5 ⟨rfl, b5⟩
  have B5 := Lib.hid (below_then B4.out b5)
  clear b5 p0 p1 p2 p3 p4 r0 r1 r2 r3 r4 r5 r6
  generalize Lib.itoa p.ins[j].to = T at *
  go_wp2_with fail
  go_ret
  exact ⟨ret_str FS.out, B5.out⟩
set_option maxHeartbeats 3200000 in
set_option maxRecDepth 100000 in
theorem impl_InsLine_4 (p : Cd) (x : V5) (w : World) (hp : CdIs w x p) (htot : totCd p ≤ 1048576) (hk : CodOk p) (j : Nat) (hj : j < p.ins.length) (hop : p.ins[j].op = 4) (tab : TabW w) :
    Calls Tryd.prog 38 #[x.val p, .int .i64 (j : Int)] w fun e w' => e = .returned (.string ⟨(lineL p p.ins[j] j).toArray⟩) ∧ Below w.heap.size w w' := by
  obtain ⟨gA, gc, lA, lc, pA, pc, eA, ec, iA, ic⟩ := x
  obtain ⟨b, off, ⟨yo, ya, yk, yn, ys, yA, ym, yc, yt⟩, e1, _, _, hI⟩ := rd_ins hp.i3 hj
  simp only at e1
  subst e1
  have HP := Lib.hid hp
  have hgl := hp.g1
  have hgc := hp.g2
  have hll := hp.l1
  have hlc := hp.l2
  have hpl := hp.p1
  have hpc := hp.p2
  have hel := hp.e1
  have hec := hp.e2
  have hil := hp.i1
  have hic := hp.i2
  simp only at hgl hgc hll hlc hpl hpc hel hec hil hic
  unfold maxLen at hgc hlc hpc hec hic
  have HK := Lib.hid hk
  have H1 := Lib.hid (decP_yes hk)
  obtain ⟨ho, ha, hto, io, ia, ito, hT⟩ := hI
  simp only [V7.term] at ho ha hto io ia ito hT
  have IN := Lib.hid (ins_in hk hj).2
  have h0j : (0 : Int) ≤ (j : Int) := by omega
  have h1j : (j : Int) < (p.ins.length : Int) := by omega
  have q2 : inB (j : Int) 0 ((p.ins.length : Int) - 1) = true := inBi_yes (by omega) (by omega)
  have HR := Lib.hid hp.i3
  have HQ := Lib.hid hp
  clear hp hk hT ho ha hto
  unfold V5.val
  simp only
  have TB := Lib.hid tab
  clear tab
  obtain ⟨an, han⟩ : ∃ an : Nat, p.ins[j].arg = (an : Int) := ⟨p.ins[j].arg.toNat, by have := (inB_dest IN.out).1; omega⟩
  have hal : an < p.procs.length := by
    have := (inB_dest IN.out).2
    rw [hop, han, show mostC p 4 = (p.procs.length : Int) - 1 from rfl] at this
    omega
  have hsm := name_small (nam_p HK.out.head.nam) hal
  have h0a : (0 : Int) ≤ (an : Int) := by omega
  have h1a : (an : Int) < (p.procs.length : Int) := by omega
  have HAN := Lib.hid han
  obtain ⟨F, hF⟩ : ∃ F : ByteArray, ⟨(lineL p p.ins[j] j).toArray⟩ = F := ⟨_, rfl⟩
  have FS : Hid ((⟨(Lib.itoa (j : Int)).toArray⟩ : ByteArray) ++ (⟨#[32]⟩ : ByteArray) ++ (⟨#[99, 97, 108, 108, 32]⟩ : ByteArray) ++ p.procs[an] = F) := Lib.hid (by
    rw [← hF, lineL, restL_4 hop, HAN.out, nmAt_get hal]
    apply str_ext
    simp)
  rw [hF]
  clear hF
  have hjl := itoa_20 (j : Int) (by omega) (by omega)
  have hxl := txtR_len p.ins[j].term
  have HO := Lib.hid hop
  clear hop io ia han
  go_enter Tryd.func38, Tryd.ntmps38
  go_wp2_with fail
  refine (impl_isPlace p ⟨gA, gc, lA, lc, pA, pc, eA, ec, some ⟨b, off, none⟩, ic⟩ _ (HQ.out.belowA (by repeat' (first | exact Below.refl _ _ | exact Nat.le_refl _ | (refine Below.alloc ?_ ?_ _) | (refine Below.setCell ?_ ?_ _) | (refine Below.drew ?_) | (refine below_drewN ?_ _) | assumption | (simp; done) | (simp; omega)))) (j : Int)).mono ?_
  rintro e w1 ⟨rfl, b1⟩
  have BA := Lib.hid (Below.trans (by repeat' (first | exact Below.refl _ _ | exact Nat.le_refl _ | (refine Below.alloc ?_ ?_ _) | (refine Below.setCell ?_ ?_ _) | (refine Below.drew ?_) | (refine below_drewN ?_ _) | assumption | (simp; done) | (simp; omega))) (b1.mono (by simp)) : Below w.heap.size w w1)
  have BXA := Lib.hid ((Box5.new w ⟨gA, gc, lA, lc, pA, pc, eA, ec, some ⟨b, off, none⟩, ic⟩ p 59).below b1)
  rw [q2]
  clear b1
  obtain ⟨p0, p1, p2, p3, p4⟩ := BXA.out
  simp only at p0 p1 p2 p3 p4
  go_wp2_with fail
  refine (impl_CodeOk p ⟨gA, gc, lA, lc, pA, pc, eA, ec, some ⟨b, off, none⟩, ic⟩ _ (HQ.out.belowA BA.out) htot).mono ?_
  rintro e w2 ⟨rfl, b1⟩
  have BB := Lib.hid (below_then BA.out b1)
  have BX := Lib.hid (BXA.out.below b1)
  rw [H1.out]
  clear b1 p0 p1 p2 p3 p4
  obtain ⟨p0, p1, p2, p3, p4⟩ := BX.out
  simp only at p0 p1 p2 p3 p4
  obtain ⟨b', off', ⟨yo', ya', yk', yn', ys', yA', ym', yc', yt'⟩, e1, _, ⟨d0, d1, d2, d3, d4, d5, d6⟩, hI⟩ := rd_ins (HR.out.belowA BB.out) hj
  injection e1 with e1
  injection e1 with e2 e3
  subst e2 e3
  obtain ⟨ho, ha, hto, _, _, _, hT⟩ := hI
  simp only [V7.term] at ho ha hto hT d0 d1 d2 d3 d4 d5 d6
  rw [HO.out] at ho
  subst ho ha hto
  have HT := Lib.hid hT
  have CX0 := Lib.hid (Cells7.new w2 ⟨4, p.ins[j].arg, yk', yn', ys', yA', ym', yc', p.ins[j].to⟩ 130)
  clear hT
  go_wp2_with fail
  refine (impl_Decimal (j : Int) (by omega) (by omega) _ (TB.out.below (below_then BB.out (Below.alloc (Below.refl _ _) (Nat.le_refl _) _)))).mono ?_
  rintro e w4 ⟨rfl, b4⟩
  have B4 := Lib.hid (below_then BB.out (Below.trans (Below.alloc (Below.refl _ _) (Nat.le_refl _) _) (b4.mono (by simp))))
  have BX4 := Lib.hid (BX.out.below (Below.trans (Below.alloc (Below.refl _ _) (Nat.le_refl _) _) (b4.mono (by simp))))
  have CX4 := Lib.hid (CX0.out.below b4)
  have HT4 := Lib.hid (HT.out.belowA (Below.trans (Below.alloc (Below.refl _ _) (Nat.le_refl _) _) (b4.mono (by simp))))
  clear b4 d0 d1 d2 d3 d4 d5 d6 p0 p1 p2 p3 p4 BX CX0 HT
  generalize Lib.itoa (j : Int) = J at *
  obtain ⟨nb, noff, e1, ncell⟩ := rd_str (HQ.out.belowA B4.out).p3 hal
  simp only at e1
  subst e1
  generalize hnm : p.procs[an] = nm at *
  have NC := Lib.hid ncell
  have HNM := Lib.hid hnm
  clear hnm
  obtain ⟨p0, p1, p2, p3, p4⟩ := BX4.out
  obtain ⟨r0, r1, r2, r3, r4, r5, r6⟩ := CX4.out
  simp only at p0 p1 p2 p3 p4 r0 r1 r2 r3 r4 r5 r6
  rw [HAN.out] at r1
  go_wp2_with fail
  go_ret
  exact ⟨ret_str FS.out, B4.out⟩
set_option maxHeartbeats 3200000 in
set_option maxRecDepth 100000 in
theorem impl_InsLine_5 (p : Cd) (x : V5) (w : World) (hp : CdIs w x p) (htot : totCd p ≤ 1048576) (hk : CodOk p) (j : Nat) (hj : j < p.ins.length) (hop : p.ins[j].op = 5) (tab : TabW w) :
    Calls Tryd.prog 38 #[x.val p, .int .i64 (j : Int)] w fun e w' => e = .returned (.string ⟨(lineL p p.ins[j] j).toArray⟩) ∧ Below w.heap.size w w' := by
  obtain ⟨gA, gc, lA, lc, pA, pc, eA, ec, iA, ic⟩ := x
  obtain ⟨b, off, ⟨yo, ya, yk, yn, ys, yA, ym, yc, yt⟩, e1, _, _, hI⟩ := rd_ins hp.i3 hj
  simp only at e1
  subst e1
  have HP := Lib.hid hp
  have hgl := hp.g1
  have hgc := hp.g2
  have hll := hp.l1
  have hlc := hp.l2
  have hpl := hp.p1
  have hpc := hp.p2
  have hel := hp.e1
  have hec := hp.e2
  have hil := hp.i1
  have hic := hp.i2
  simp only at hgl hgc hll hlc hpl hpc hel hec hil hic
  unfold maxLen at hgc hlc hpc hec hic
  have HK := Lib.hid hk
  have H1 := Lib.hid (decP_yes hk)
  obtain ⟨ho, ha, hto, io, ia, ito, hT⟩ := hI
  simp only [V7.term] at ho ha hto io ia ito hT
  have IN := Lib.hid (ins_in hk hj).2
  have h0j : (0 : Int) ≤ (j : Int) := by omega
  have h1j : (j : Int) < (p.ins.length : Int) := by omega
  have q2 : inB (j : Int) 0 ((p.ins.length : Int) - 1) = true := inBi_yes (by omega) (by omega)
  have HR := Lib.hid hp.i3
  have HQ := Lib.hid hp
  clear hp hk hT ho ha hto
  unfold V5.val
  simp only
  have TB := Lib.hid tab
  clear tab
  obtain ⟨an, han⟩ : ∃ an : Nat, p.ins[j].arg = (an : Int) := ⟨p.ins[j].arg.toNat, by have := (inB_dest IN.out).1; omega⟩
  have hal : an < p.procs.length := by
    have := (inB_dest IN.out).2
    rw [hop, han, show mostC p 5 = (p.procs.length : Int) - 1 from rfl] at this
    omega
  have hsm := name_small (nam_p HK.out.head.nam) hal
  have h0a : (0 : Int) ≤ (an : Int) := by omega
  have h1a : (an : Int) < (p.procs.length : Int) := by omega
  have HAN := Lib.hid han
  obtain ⟨F, hF⟩ : ∃ F : ByteArray, ⟨(lineL p p.ins[j] j).toArray⟩ = F := ⟨_, rfl⟩
  have FS : Hid ((⟨(Lib.itoa (j : Int)).toArray⟩ : ByteArray) ++ (⟨#[32]⟩ : ByteArray) ++ (⟨#[115, 112, 97, 119, 110, 32]⟩ : ByteArray) ++ p.procs[an] = F) := Lib.hid (by
    rw [← hF, lineL, restL_5 hop, HAN.out, nmAt_get hal]
    apply str_ext
    simp)
  rw [hF]
  clear hF
  have hjl := itoa_20 (j : Int) (by omega) (by omega)
  have hxl := txtR_len p.ins[j].term
  have HO := Lib.hid hop
  clear hop io ia han
  go_enter Tryd.func38, Tryd.ntmps38
  go_wp2_with fail
  refine (impl_isPlace p ⟨gA, gc, lA, lc, pA, pc, eA, ec, some ⟨b, off, none⟩, ic⟩ _ (HQ.out.belowA (by repeat' (first | exact Below.refl _ _ | exact Nat.le_refl _ | (refine Below.alloc ?_ ?_ _) | (refine Below.setCell ?_ ?_ _) | (refine Below.drew ?_) | (refine below_drewN ?_ _) | assumption | (simp; done) | (simp; omega)))) (j : Int)).mono ?_
  rintro e w1 ⟨rfl, b1⟩
  have BA := Lib.hid (Below.trans (by repeat' (first | exact Below.refl _ _ | exact Nat.le_refl _ | (refine Below.alloc ?_ ?_ _) | (refine Below.setCell ?_ ?_ _) | (refine Below.drew ?_) | (refine below_drewN ?_ _) | assumption | (simp; done) | (simp; omega))) (b1.mono (by simp)) : Below w.heap.size w w1)
  have BXA := Lib.hid ((Box5.new w ⟨gA, gc, lA, lc, pA, pc, eA, ec, some ⟨b, off, none⟩, ic⟩ p 59).below b1)
  rw [q2]
  clear b1
  obtain ⟨p0, p1, p2, p3, p4⟩ := BXA.out
  simp only at p0 p1 p2 p3 p4
  go_wp2_with fail
  refine (impl_CodeOk p ⟨gA, gc, lA, lc, pA, pc, eA, ec, some ⟨b, off, none⟩, ic⟩ _ (HQ.out.belowA BA.out) htot).mono ?_
  rintro e w2 ⟨rfl, b1⟩
  have BB := Lib.hid (below_then BA.out b1)
  have BX := Lib.hid (BXA.out.below b1)
  rw [H1.out]
  clear b1 p0 p1 p2 p3 p4
  obtain ⟨p0, p1, p2, p3, p4⟩ := BX.out
  simp only at p0 p1 p2 p3 p4
  obtain ⟨b', off', ⟨yo', ya', yk', yn', ys', yA', ym', yc', yt'⟩, e1, _, ⟨d0, d1, d2, d3, d4, d5, d6⟩, hI⟩ := rd_ins (HR.out.belowA BB.out) hj
  injection e1 with e1
  injection e1 with e2 e3
  subst e2 e3
  obtain ⟨ho, ha, hto, _, _, _, hT⟩ := hI
  simp only [V7.term] at ho ha hto hT d0 d1 d2 d3 d4 d5 d6
  rw [HO.out] at ho
  subst ho ha hto
  have HT := Lib.hid hT
  have CX0 := Lib.hid (Cells7.new w2 ⟨5, p.ins[j].arg, yk', yn', ys', yA', ym', yc', p.ins[j].to⟩ 130)
  clear hT
  go_wp2_with fail
  refine (impl_Decimal (j : Int) (by omega) (by omega) _ (TB.out.below (below_then BB.out (Below.alloc (Below.refl _ _) (Nat.le_refl _) _)))).mono ?_
  rintro e w4 ⟨rfl, b4⟩
  have B4 := Lib.hid (below_then BB.out (Below.trans (Below.alloc (Below.refl _ _) (Nat.le_refl _) _) (b4.mono (by simp))))
  have BX4 := Lib.hid (BX.out.below (Below.trans (Below.alloc (Below.refl _ _) (Nat.le_refl _) _) (b4.mono (by simp))))
  have CX4 := Lib.hid (CX0.out.below b4)
  have HT4 := Lib.hid (HT.out.belowA (Below.trans (Below.alloc (Below.refl _ _) (Nat.le_refl _) _) (b4.mono (by simp))))
  clear b4 d0 d1 d2 d3 d4 d5 d6 p0 p1 p2 p3 p4 BX CX0 HT
  generalize Lib.itoa (j : Int) = J at *
  obtain ⟨nb, noff, e1, ncell⟩ := rd_str (HQ.out.belowA B4.out).p3 hal
  simp only at e1
  subst e1
  generalize hnm : p.procs[an] = nm at *
  have NC := Lib.hid ncell
  have HNM := Lib.hid hnm
  clear hnm
  obtain ⟨p0, p1, p2, p3, p4⟩ := BX4.out
  obtain ⟨r0, r1, r2, r3, r4, r5, r6⟩ := CX4.out
  simp only at p0 p1 p2 p3 p4 r0 r1 r2 r3 r4 r5 r6
  rw [HAN.out] at r1
  go_wp2_with fail
  go_ret
  exact ⟨ret_str FS.out, B4.out⟩
set_option maxHeartbeats 3200000 in
set_option maxRecDepth 100000 in
theorem impl_InsLine_6 (p : Cd) (x : V5) (w : World) (hp : CdIs w x p) (htot : totCd p ≤ 1048576) (hk : CodOk p) (j : Nat) (hj : j < p.ins.length) (hop : p.ins[j].op = 6) (tab : TabW w) :
    Calls Tryd.prog 38 #[x.val p, .int .i64 (j : Int)] w fun e w' => e = .returned (.string ⟨(lineL p p.ins[j] j).toArray⟩) ∧ Below w.heap.size w w' := by
  obtain ⟨gA, gc, lA, lc, pA, pc, eA, ec, iA, ic⟩ := x
  obtain ⟨b, off, ⟨yo, ya, yk, yn, ys, yA, ym, yc, yt⟩, e1, _, _, hI⟩ := rd_ins hp.i3 hj
  simp only at e1
  subst e1
  have HP := Lib.hid hp
  have hgl := hp.g1
  have hgc := hp.g2
  have hll := hp.l1
  have hlc := hp.l2
  have hpl := hp.p1
  have hpc := hp.p2
  have hel := hp.e1
  have hec := hp.e2
  have hil := hp.i1
  have hic := hp.i2
  simp only at hgl hgc hll hlc hpl hpc hel hec hil hic
  unfold maxLen at hgc hlc hpc hec hic
  have HK := Lib.hid hk
  have H1 := Lib.hid (decP_yes hk)
  obtain ⟨ho, ha, hto, io, ia, ito, hT⟩ := hI
  simp only [V7.term] at ho ha hto io ia ito hT
  have IN := Lib.hid (ins_in hk hj).2
  have h0j : (0 : Int) ≤ (j : Int) := by omega
  have h1j : (j : Int) < (p.ins.length : Int) := by omega
  have q2 : inB (j : Int) 0 ((p.ins.length : Int) - 1) = true := inBi_yes (by omega) (by omega)
  have HR := Lib.hid hp.i3
  have HQ := Lib.hid hp
  clear hp hk hT ho ha hto
  unfold V5.val
  simp only
  have TB := Lib.hid tab
  clear tab
  obtain ⟨an, han⟩ : ∃ an : Nat, p.ins[j].arg = (an : Int) := ⟨p.ins[j].arg.toNat, by have := (inB_dest IN.out).1; omega⟩
  have hal : an < p.locks.length := by
    have := (inB_dest IN.out).2
    rw [hop, han, show mostC p 6 = (p.locks.length : Int) - 1 from rfl] at this
    omega
  have hsm := name_small (nam_l HK.out.head.nam) hal
  have h0a : (0 : Int) ≤ (an : Int) := by omega
  have h1a : (an : Int) < (p.locks.length : Int) := by omega
  have HAN := Lib.hid han
  obtain ⟨F, hF⟩ : ∃ F : ByteArray, ⟨(lineL p p.ins[j] j).toArray⟩ = F := ⟨_, rfl⟩
  have FS : Hid ((⟨(Lib.itoa (j : Int)).toArray⟩ : ByteArray) ++ (⟨#[32]⟩ : ByteArray) ++ (⟨#[108, 111, 99, 107, 32]⟩ : ByteArray) ++ p.locks[an] = F) := Lib.hid (by
    rw [← hF, lineL, restL_6 hop, HAN.out, nmAt_get hal]
    apply str_ext
    simp)
  rw [hF]
  clear hF
  have hjl := itoa_20 (j : Int) (by omega) (by omega)
  have hxl := txtR_len p.ins[j].term
  have HO := Lib.hid hop
  clear hop io ia han
  go_enter Tryd.func38, Tryd.ntmps38
  go_wp2_with fail
  refine (impl_isPlace p ⟨gA, gc, lA, lc, pA, pc, eA, ec, some ⟨b, off, none⟩, ic⟩ _ (HQ.out.belowA (by repeat' (first | exact Below.refl _ _ | exact Nat.le_refl _ | (refine Below.alloc ?_ ?_ _) | (refine Below.setCell ?_ ?_ _) | (refine Below.drew ?_) | (refine below_drewN ?_ _) | assumption | (simp; done) | (simp; omega)))) (j : Int)).mono ?_
  rintro e w1 ⟨rfl, b1⟩
  have BA := Lib.hid (Below.trans (by repeat' (first | exact Below.refl _ _ | exact Nat.le_refl _ | (refine Below.alloc ?_ ?_ _) | (refine Below.setCell ?_ ?_ _) | (refine Below.drew ?_) | (refine below_drewN ?_ _) | assumption | (simp; done) | (simp; omega))) (b1.mono (by simp)) : Below w.heap.size w w1)
  have BXA := Lib.hid ((Box5.new w ⟨gA, gc, lA, lc, pA, pc, eA, ec, some ⟨b, off, none⟩, ic⟩ p 59).below b1)
  rw [q2]
  clear b1
  obtain ⟨p0, p1, p2, p3, p4⟩ := BXA.out
  simp only at p0 p1 p2 p3 p4
  go_wp2_with fail
  refine (impl_CodeOk p ⟨gA, gc, lA, lc, pA, pc, eA, ec, some ⟨b, off, none⟩, ic⟩ _ (HQ.out.belowA BA.out) htot).mono ?_
  rintro e w2 ⟨rfl, b1⟩
  have BB := Lib.hid (below_then BA.out b1)
  have BX := Lib.hid (BXA.out.below b1)
  rw [H1.out]
  clear b1 p0 p1 p2 p3 p4
  obtain ⟨p0, p1, p2, p3, p4⟩ := BX.out
  simp only at p0 p1 p2 p3 p4
  obtain ⟨b', off', ⟨yo', ya', yk', yn', ys', yA', ym', yc', yt'⟩, e1, _, ⟨d0, d1, d2, d3, d4, d5, d6⟩, hI⟩ := rd_ins (HR.out.belowA BB.out) hj
  injection e1 with e1
  injection e1 with e2 e3
  subst e2 e3
  obtain ⟨ho, ha, hto, _, _, _, hT⟩ := hI
  simp only [V7.term] at ho ha hto hT d0 d1 d2 d3 d4 d5 d6
  rw [HO.out] at ho
  subst ho ha hto
  have HT := Lib.hid hT
  have CX0 := Lib.hid (Cells7.new w2 ⟨6, p.ins[j].arg, yk', yn', ys', yA', ym', yc', p.ins[j].to⟩ 130)
  clear hT
  go_wp2_with fail
  refine (impl_Decimal (j : Int) (by omega) (by omega) _ (TB.out.below (below_then BB.out (Below.alloc (Below.refl _ _) (Nat.le_refl _) _)))).mono ?_
  rintro e w4 ⟨rfl, b4⟩
  have B4 := Lib.hid (below_then BB.out (Below.trans (Below.alloc (Below.refl _ _) (Nat.le_refl _) _) (b4.mono (by simp))))
  have BX4 := Lib.hid (BX.out.below (Below.trans (Below.alloc (Below.refl _ _) (Nat.le_refl _) _) (b4.mono (by simp))))
  have CX4 := Lib.hid (CX0.out.below b4)
  have HT4 := Lib.hid (HT.out.belowA (Below.trans (Below.alloc (Below.refl _ _) (Nat.le_refl _) _) (b4.mono (by simp))))
  clear b4 d0 d1 d2 d3 d4 d5 d6 p0 p1 p2 p3 p4 BX CX0 HT
  generalize Lib.itoa (j : Int) = J at *
  obtain ⟨nb, noff, e1, ncell⟩ := rd_str (HQ.out.belowA B4.out).l3 hal
  simp only at e1
  subst e1
  generalize hnm : p.locks[an] = nm at *
  have NC := Lib.hid ncell
  have HNM := Lib.hid hnm
  clear hnm
  obtain ⟨p0, p1, p2, p3, p4⟩ := BX4.out
  obtain ⟨r0, r1, r2, r3, r4, r5, r6⟩ := CX4.out
  simp only at p0 p1 p2 p3 p4 r0 r1 r2 r3 r4 r5 r6
  rw [HAN.out] at r1
  go_wp2_with fail
  go_ret
  exact ⟨ret_str FS.out, B4.out⟩
set_option maxHeartbeats 3200000 in
set_option maxRecDepth 100000 in
theorem impl_InsLine_7 (p : Cd) (x : V5) (w : World) (hp : CdIs w x p) (htot : totCd p ≤ 1048576) (hk : CodOk p) (j : Nat) (hj : j < p.ins.length) (hop : p.ins[j].op = 7) (tab : TabW w) :
    Calls Tryd.prog 38 #[x.val p, .int .i64 (j : Int)] w fun e w' => e = .returned (.string ⟨(lineL p p.ins[j] j).toArray⟩) ∧ Below w.heap.size w w' := by
  obtain ⟨gA, gc, lA, lc, pA, pc, eA, ec, iA, ic⟩ := x
  obtain ⟨b, off, ⟨yo, ya, yk, yn, ys, yA, ym, yc, yt⟩, e1, _, _, hI⟩ := rd_ins hp.i3 hj
  simp only at e1
  subst e1
  have HP := Lib.hid hp
  have hgl := hp.g1
  have hgc := hp.g2
  have hll := hp.l1
  have hlc := hp.l2
  have hpl := hp.p1
  have hpc := hp.p2
  have hel := hp.e1
  have hec := hp.e2
  have hil := hp.i1
  have hic := hp.i2
  simp only at hgl hgc hll hlc hpl hpc hel hec hil hic
  unfold maxLen at hgc hlc hpc hec hic
  have HK := Lib.hid hk
  have H1 := Lib.hid (decP_yes hk)
  obtain ⟨ho, ha, hto, io, ia, ito, hT⟩ := hI
  simp only [V7.term] at ho ha hto io ia ito hT
  have IN := Lib.hid (ins_in hk hj).2
  have h0j : (0 : Int) ≤ (j : Int) := by omega
  have h1j : (j : Int) < (p.ins.length : Int) := by omega
  have q2 : inB (j : Int) 0 ((p.ins.length : Int) - 1) = true := inBi_yes (by omega) (by omega)
  have HR := Lib.hid hp.i3
  have HQ := Lib.hid hp
  clear hp hk hT ho ha hto
  unfold V5.val
  simp only
  have TB := Lib.hid tab
  clear tab
  obtain ⟨an, han⟩ : ∃ an : Nat, p.ins[j].arg = (an : Int) := ⟨p.ins[j].arg.toNat, by have := (inB_dest IN.out).1; omega⟩
  have hal : an < p.locks.length := by
    have := (inB_dest IN.out).2
    rw [hop, han, show mostC p 7 = (p.locks.length : Int) - 1 from rfl] at this
    omega
  have hsm := name_small (nam_l HK.out.head.nam) hal
  have h0a : (0 : Int) ≤ (an : Int) := by omega
  have h1a : (an : Int) < (p.locks.length : Int) := by omega
  have HAN := Lib.hid han
  obtain ⟨F, hF⟩ : ∃ F : ByteArray, ⟨(lineL p p.ins[j] j).toArray⟩ = F := ⟨_, rfl⟩
  have FS : Hid ((⟨(Lib.itoa (j : Int)).toArray⟩ : ByteArray) ++ (⟨#[32]⟩ : ByteArray) ++ (⟨#[117, 110, 108, 111, 99, 107, 32]⟩ : ByteArray) ++ p.locks[an] = F) := Lib.hid (by
    rw [← hF, lineL, restL_7 hop, HAN.out, nmAt_get hal]
    apply str_ext
    simp)
  rw [hF]
  clear hF
  have hjl := itoa_20 (j : Int) (by omega) (by omega)
  have hxl := txtR_len p.ins[j].term
  have HO := Lib.hid hop
  clear hop io ia han
  go_enter Tryd.func38, Tryd.ntmps38
  go_wp2_with fail
  refine (impl_isPlace p ⟨gA, gc, lA, lc, pA, pc, eA, ec, some ⟨b, off, none⟩, ic⟩ _ (HQ.out.belowA (by repeat' (first | exact Below.refl _ _ | exact Nat.le_refl _ | (refine Below.alloc ?_ ?_ _) | (refine Below.setCell ?_ ?_ _) | (refine Below.drew ?_) | (refine below_drewN ?_ _) | assumption | (simp; done) | (simp; omega)))) (j : Int)).mono ?_
  rintro e w1 ⟨rfl, b1⟩
  have BA := Lib.hid (Below.trans (by repeat' (first | exact Below.refl _ _ | exact Nat.le_refl _ | (refine Below.alloc ?_ ?_ _) | (refine Below.setCell ?_ ?_ _) | (refine Below.drew ?_) | (refine below_drewN ?_ _) | assumption | (simp; done) | (simp; omega))) (b1.mono (by simp)) : Below w.heap.size w w1)
  have BXA := Lib.hid ((Box5.new w ⟨gA, gc, lA, lc, pA, pc, eA, ec, some ⟨b, off, none⟩, ic⟩ p 59).below b1)
  rw [q2]
  clear b1
  obtain ⟨p0, p1, p2, p3, p4⟩ := BXA.out
  simp only at p0 p1 p2 p3 p4
  go_wp2_with fail
  refine (impl_CodeOk p ⟨gA, gc, lA, lc, pA, pc, eA, ec, some ⟨b, off, none⟩, ic⟩ _ (HQ.out.belowA BA.out) htot).mono ?_
  rintro e w2 ⟨rfl, b1⟩
  have BB := Lib.hid (below_then BA.out b1)
  have BX := Lib.hid (BXA.out.below b1)
  rw [H1.out]
  clear b1 p0 p1 p2 p3 p4
  obtain ⟨p0, p1, p2, p3, p4⟩ := BX.out
  simp only at p0 p1 p2 p3 p4
  obtain ⟨b', off', ⟨yo', ya', yk', yn', ys', yA', ym', yc', yt'⟩, e1, _, ⟨d0, d1, d2, d3, d4, d5, d6⟩, hI⟩ := rd_ins (HR.out.belowA BB.out) hj
  injection e1 with e1
  injection e1 with e2 e3
  subst e2 e3
  obtain ⟨ho, ha, hto, _, _, _, hT⟩ := hI
  simp only [V7.term] at ho ha hto hT d0 d1 d2 d3 d4 d5 d6
  rw [HO.out] at ho
  subst ho ha hto
  have HT := Lib.hid hT
  have CX0 := Lib.hid (Cells7.new w2 ⟨7, p.ins[j].arg, yk', yn', ys', yA', ym', yc', p.ins[j].to⟩ 130)
  clear hT
  go_wp2_with fail
  refine (impl_Decimal (j : Int) (by omega) (by omega) _ (TB.out.below (below_then BB.out (Below.alloc (Below.refl _ _) (Nat.le_refl _) _)))).mono ?_
  rintro e w4 ⟨rfl, b4⟩
  have B4 := Lib.hid (below_then BB.out (Below.trans (Below.alloc (Below.refl _ _) (Nat.le_refl _) _) (b4.mono (by simp))))
  have BX4 := Lib.hid (BX.out.below (Below.trans (Below.alloc (Below.refl _ _) (Nat.le_refl _) _) (b4.mono (by simp))))
  have CX4 := Lib.hid (CX0.out.below b4)
  have HT4 := Lib.hid (HT.out.belowA (Below.trans (Below.alloc (Below.refl _ _) (Nat.le_refl _) _) (b4.mono (by simp))))
  clear b4 d0 d1 d2 d3 d4 d5 d6 p0 p1 p2 p3 p4 BX CX0 HT
  generalize Lib.itoa (j : Int) = J at *
  obtain ⟨nb, noff, e1, ncell⟩ := rd_str (HQ.out.belowA B4.out).l3 hal
  simp only at e1
  subst e1
  generalize hnm : p.locks[an] = nm at *
  have NC := Lib.hid ncell
  have HNM := Lib.hid hnm
  clear hnm
  obtain ⟨p0, p1, p2, p3, p4⟩ := BX4.out
  obtain ⟨r0, r1, r2, r3, r4, r5, r6⟩ := CX4.out
  simp only at p0 p1 p2 p3 p4 r0 r1 r2 r3 r4 r5 r6
  rw [HAN.out] at r1
  go_wp2_with fail
  go_ret
  exact ⟨ret_str FS.out, B4.out⟩
set_option maxHeartbeats 3200000 in
set_option maxRecDepth 100000 in
theorem impl_InsLine_8 (p : Cd) (x : V5) (w : World) (hp : CdIs w x p) (htot : totCd p ≤ 1048576) (hk : CodOk p) (j : Nat) (hj : j < p.ins.length) (hop : p.ins[j].op = 8) (tab : TabW w) :
    Calls Tryd.prog 38 #[x.val p, .int .i64 (j : Int)] w fun e w' => e = .returned (.string ⟨(lineL p p.ins[j] j).toArray⟩) ∧ Below w.heap.size w w' := by
  obtain ⟨gA, gc, lA, lc, pA, pc, eA, ec, iA, ic⟩ := x
  obtain ⟨b, off, ⟨yo, ya, yk, yn, ys, yA, ym, yc, yt⟩, e1, _, _, hI⟩ := rd_ins hp.i3 hj
  simp only at e1
  subst e1
  have HP := Lib.hid hp
  have hgl := hp.g1
  have hgc := hp.g2
  have hll := hp.l1
  have hlc := hp.l2
  have hpl := hp.p1
  have hpc := hp.p2
  have hel := hp.e1
  have hec := hp.e2
  have hil := hp.i1
  have hic := hp.i2
  simp only at hgl hgc hll hlc hpl hpc hel hec hil hic
  unfold maxLen at hgc hlc hpc hec hic
  have HK := Lib.hid hk
  have H1 := Lib.hid (decP_yes hk)
  obtain ⟨ho, ha, hto, io, ia, ito, hT⟩ := hI
  simp only [V7.term] at ho ha hto io ia ito hT
  have IN := Lib.hid (ins_in hk hj).2
  have h0j : (0 : Int) ≤ (j : Int) := by omega
  have h1j : (j : Int) < (p.ins.length : Int) := by omega
  have q2 : inB (j : Int) 0 ((p.ins.length : Int) - 1) = true := inBi_yes (by omega) (by omega)
  have HR := Lib.hid hp.i3
  have HQ := Lib.hid hp
  clear hp hk hT ho ha hto
  unfold V5.val
  simp only
  have TB := Lib.hid tab
  clear tab
  obtain ⟨F, hF⟩ : ∃ F : ByteArray, ⟨(lineL p p.ins[j] j).toArray⟩ = F := ⟨_, rfl⟩
  have FS : Hid ((⟨(Lib.itoa (j : Int)).toArray⟩ : ByteArray) ++ (⟨#[32]⟩ : ByteArray) ++ (⟨#[115, 107, 105, 112]⟩ : ByteArray) = F) := Lib.hid (by
    rw [← hF, lineL, restL_8 hop]
    apply str_ext
    simp)
  rw [hF]
  clear hF
  have hjl := itoa_20 (j : Int) (by omega) (by omega)
  have hxl := txtR_len p.ins[j].term
  have HO := Lib.hid hop
  clear hop io ia
  go_enter Tryd.func38, Tryd.ntmps38
  go_wp2_with fail
  refine (impl_isPlace p ⟨gA, gc, lA, lc, pA, pc, eA, ec, some ⟨b, off, none⟩, ic⟩ _ (HQ.out.belowA (by repeat' (first | exact Below.refl _ _ | exact Nat.le_refl _ | (refine Below.alloc ?_ ?_ _) | (refine Below.setCell ?_ ?_ _) | (refine Below.drew ?_) | (refine below_drewN ?_ _) | assumption | (simp; done) | (simp; omega)))) (j : Int)).mono ?_
  rintro e w1 ⟨rfl, b1⟩
  have BA := Lib.hid (Below.trans (by repeat' (first | exact Below.refl _ _ | exact Nat.le_refl _ | (refine Below.alloc ?_ ?_ _) | (refine Below.setCell ?_ ?_ _) | (refine Below.drew ?_) | (refine below_drewN ?_ _) | assumption | (simp; done) | (simp; omega))) (b1.mono (by simp)) : Below w.heap.size w w1)
  have BXA := Lib.hid ((Box5.new w ⟨gA, gc, lA, lc, pA, pc, eA, ec, some ⟨b, off, none⟩, ic⟩ p 59).below b1)
  rw [q2]
  clear b1
  obtain ⟨p0, p1, p2, p3, p4⟩ := BXA.out
  simp only at p0 p1 p2 p3 p4
  go_wp2_with fail
  refine (impl_CodeOk p ⟨gA, gc, lA, lc, pA, pc, eA, ec, some ⟨b, off, none⟩, ic⟩ _ (HQ.out.belowA BA.out) htot).mono ?_
  rintro e w2 ⟨rfl, b1⟩
  have BB := Lib.hid (below_then BA.out b1)
  have BX := Lib.hid (BXA.out.below b1)
  rw [H1.out]
  clear b1 p0 p1 p2 p3 p4
  obtain ⟨p0, p1, p2, p3, p4⟩ := BX.out
  simp only at p0 p1 p2 p3 p4
  obtain ⟨b', off', ⟨yo', ya', yk', yn', ys', yA', ym', yc', yt'⟩, e1, _, ⟨d0, d1, d2, d3, d4, d5, d6⟩, hI⟩ := rd_ins (HR.out.belowA BB.out) hj
  injection e1 with e1
  injection e1 with e2 e3
  subst e2 e3
  obtain ⟨ho, ha, hto, _, _, _, hT⟩ := hI
  simp only [V7.term] at ho ha hto hT d0 d1 d2 d3 d4 d5 d6
  rw [HO.out] at ho
  subst ho ha hto
  have HT := Lib.hid hT
  have CX0 := Lib.hid (Cells7.new w2 ⟨8, p.ins[j].arg, yk', yn', ys', yA', ym', yc', p.ins[j].to⟩ 130)
  clear hT
  go_wp2_with fail
  refine (impl_Decimal (j : Int) (by omega) (by omega) _ (TB.out.below (below_then BB.out (Below.alloc (Below.refl _ _) (Nat.le_refl _) _)))).mono ?_
  rintro e w4 ⟨rfl, b4⟩
  have B4 := Lib.hid (below_then BB.out (Below.trans (Below.alloc (Below.refl _ _) (Nat.le_refl _) _) (b4.mono (by simp))))
  have BX4 := Lib.hid (BX.out.below (Below.trans (Below.alloc (Below.refl _ _) (Nat.le_refl _) _) (b4.mono (by simp))))
  have CX4 := Lib.hid (CX0.out.below b4)
  have HT4 := Lib.hid (HT.out.belowA (Below.trans (Below.alloc (Below.refl _ _) (Nat.le_refl _) _) (b4.mono (by simp))))
  clear b4 d0 d1 d2 d3 d4 d5 d6 p0 p1 p2 p3 p4 BX CX0 HT
  generalize Lib.itoa (j : Int) = J at *
  obtain ⟨p0, p1, p2, p3, p4⟩ := BX4.out
  obtain ⟨r0, r1, r2, r3, r4, r5, r6⟩ := CX4.out
  simp only at p0 p1 p2 p3 p4 r0 r1 r2 r3 r4 r5 r6
  go_wp2_with fail
  go_ret
  exact ⟨ret_str FS.out, B4.out⟩
set_option maxHeartbeats 3200000 in
set_option maxRecDepth 100000 in
theorem impl_InsLine_9 (p : Cd) (x : V5) (w : World) (hp : CdIs w x p) (htot : totCd p ≤ 1048576) (hk : CodOk p) (j : Nat) (hj : j < p.ins.length) (hop : p.ins[j].op = 9) (tab : TabW w) :
    Calls Tryd.prog 38 #[x.val p, .int .i64 (j : Int)] w fun e w' => e = .returned (.string ⟨(lineL p p.ins[j] j).toArray⟩) ∧ Below w.heap.size w w' := by
  obtain ⟨gA, gc, lA, lc, pA, pc, eA, ec, iA, ic⟩ := x
  obtain ⟨b, off, ⟨yo, ya, yk, yn, ys, yA, ym, yc, yt⟩, e1, _, _, hI⟩ := rd_ins hp.i3 hj
  simp only at e1
  subst e1
  have HP := Lib.hid hp
  have hgl := hp.g1
  have hgc := hp.g2
  have hll := hp.l1
  have hlc := hp.l2
  have hpl := hp.p1
  have hpc := hp.p2
  have hel := hp.e1
  have hec := hp.e2
  have hil := hp.i1
  have hic := hp.i2
  simp only at hgl hgc hll hlc hpl hpc hel hec hil hic
  unfold maxLen at hgc hlc hpc hec hic
  have HK := Lib.hid hk
  have H1 := Lib.hid (decP_yes hk)
  obtain ⟨ho, ha, hto, io, ia, ito, hT⟩ := hI
  simp only [V7.term] at ho ha hto io ia ito hT
  have IN := Lib.hid (ins_in hk hj).2
  have h0j : (0 : Int) ≤ (j : Int) := by omega
  have h1j : (j : Int) < (p.ins.length : Int) := by omega
  have q2 : inB (j : Int) 0 ((p.ins.length : Int) - 1) = true := inBi_yes (by omega) (by omega)
  have HR := Lib.hid hp.i3
  have HQ := Lib.hid hp
  clear hp hk hT ho ha hto
  unfold V5.val
  simp only
  have TB := Lib.hid tab
  clear tab
  obtain ⟨F, hF⟩ : ∃ F : ByteArray, ⟨(lineL p p.ins[j] j).toArray⟩ = F := ⟨_, rfl⟩
  have FS : Hid ((⟨(Lib.itoa (j : Int)).toArray⟩ : ByteArray) ++ (⟨#[32]⟩ : ByteArray) ++ (⟨#[101, 110, 100]⟩ : ByteArray) = F) := Lib.hid (by
    rw [← hF, lineL, restL_9 hop]
    apply str_ext
    simp)
  rw [hF]
  clear hF
  have hjl := itoa_20 (j : Int) (by omega) (by omega)
  have hxl := txtR_len p.ins[j].term
  have HO := Lib.hid hop
  clear hop io ia
  go_enter Tryd.func38, Tryd.ntmps38
  go_wp2_with fail
  refine (impl_isPlace p ⟨gA, gc, lA, lc, pA, pc, eA, ec, some ⟨b, off, none⟩, ic⟩ _ (HQ.out.belowA (by repeat' (first | exact Below.refl _ _ | exact Nat.le_refl _ | (refine Below.alloc ?_ ?_ _) | (refine Below.setCell ?_ ?_ _) | (refine Below.drew ?_) | (refine below_drewN ?_ _) | assumption | (simp; done) | (simp; omega)))) (j : Int)).mono ?_
  rintro e w1 ⟨rfl, b1⟩
  have BA := Lib.hid (Below.trans (by repeat' (first | exact Below.refl _ _ | exact Nat.le_refl _ | (refine Below.alloc ?_ ?_ _) | (refine Below.setCell ?_ ?_ _) | (refine Below.drew ?_) | (refine below_drewN ?_ _) | assumption | (simp; done) | (simp; omega))) (b1.mono (by simp)) : Below w.heap.size w w1)
  have BXA := Lib.hid ((Box5.new w ⟨gA, gc, lA, lc, pA, pc, eA, ec, some ⟨b, off, none⟩, ic⟩ p 59).below b1)
  rw [q2]
  clear b1
  obtain ⟨p0, p1, p2, p3, p4⟩ := BXA.out
  simp only at p0 p1 p2 p3 p4
  go_wp2_with fail
  refine (impl_CodeOk p ⟨gA, gc, lA, lc, pA, pc, eA, ec, some ⟨b, off, none⟩, ic⟩ _ (HQ.out.belowA BA.out) htot).mono ?_
  rintro e w2 ⟨rfl, b1⟩
  have BB := Lib.hid (below_then BA.out b1)
  have BX := Lib.hid (BXA.out.below b1)
  rw [H1.out]
  clear b1 p0 p1 p2 p3 p4
  obtain ⟨p0, p1, p2, p3, p4⟩ := BX.out
  simp only at p0 p1 p2 p3 p4
  obtain ⟨b', off', ⟨yo', ya', yk', yn', ys', yA', ym', yc', yt'⟩, e1, _, ⟨d0, d1, d2, d3, d4, d5, d6⟩, hI⟩ := rd_ins (HR.out.belowA BB.out) hj
  injection e1 with e1
  injection e1 with e2 e3
  subst e2 e3
  obtain ⟨ho, ha, hto, _, _, _, hT⟩ := hI
  simp only [V7.term] at ho ha hto hT d0 d1 d2 d3 d4 d5 d6
  rw [HO.out] at ho
  subst ho ha hto
  have HT := Lib.hid hT
  have CX0 := Lib.hid (Cells7.new w2 ⟨9, p.ins[j].arg, yk', yn', ys', yA', ym', yc', p.ins[j].to⟩ 130)
  clear hT
  go_wp2_with fail
  refine (impl_Decimal (j : Int) (by omega) (by omega) _ (TB.out.below (below_then BB.out (Below.alloc (Below.refl _ _) (Nat.le_refl _) _)))).mono ?_
  rintro e w4 ⟨rfl, b4⟩
  have B4 := Lib.hid (below_then BB.out (Below.trans (Below.alloc (Below.refl _ _) (Nat.le_refl _) _) (b4.mono (by simp))))
  have BX4 := Lib.hid (BX.out.below (Below.trans (Below.alloc (Below.refl _ _) (Nat.le_refl _) _) (b4.mono (by simp))))
  have CX4 := Lib.hid (CX0.out.below b4)
  have HT4 := Lib.hid (HT.out.belowA (Below.trans (Below.alloc (Below.refl _ _) (Nat.le_refl _) _) (b4.mono (by simp))))
  clear b4 d0 d1 d2 d3 d4 d5 d6 p0 p1 p2 p3 p4 BX CX0 HT
  generalize Lib.itoa (j : Int) = J at *
  obtain ⟨p0, p1, p2, p3, p4⟩ := BX4.out
  obtain ⟨r0, r1, r2, r3, r4, r5, r6⟩ := CX4.out
  simp only at p0 p1 p2 p3 p4 r0 r1 r2 r3 r4 r5 r6
  go_wp2_with fail
  go_ret
  exact ⟨ret_str FS.out, B4.out⟩
set_option maxHeartbeats 1600000 in
theorem impl_InsLine (p : Cd) (x : V5) (w : World) (hp : CdIs w x p) (htot : totCd p ≤ 1048576) (a : Int) (tab : TabW w) :
    Calls Tryd.prog 38 #[x.val p, .int .i64 a] w fun e w' => e = .returned (.string ⟨(lineR p a).toArray⟩) ∧ Below w.heap.size w w' := by
  cases h1 : decP (CodOk p) with
  | false =>
    have F := Lib.hid (lineR_no1 (a := a) h1)
    obtain ⟨gA, gc, lA, lc, pA, pc, eA, ec, iA, ic⟩ := x
    have HP := Lib.hid hp
    have hgl := hp.g1
    have hgc := hp.g2
    have hll := hp.l1
    have hlc := hp.l2
    have hpl := hp.p1
    have hpc := hp.p2
    have hel := hp.e1
    have hec := hp.e2
    have hil := hp.i1
    have hic := hp.i2
    simp only at hgl hgc hll hlc hpl hpc hel hec hil hic
    unfold maxLen at hgc hlc hpc hec hic
    have H1 := Lib.hid h1
    clear h1 hp
    unfold V5.val
    simp only
    cases h2 : inB a 0 ((p.ins.length : Int) - 1) with
    | false =>
      have H2 := Lib.hid h2
      clear h2
      go_enter Tryd.func38, Tryd.ntmps38
      go_wp2_with fail
      refine (impl_isPlace p ⟨gA, gc, lA, lc, pA, pc, eA, ec, iA, ic⟩ _ (HP.out.belowA (by repeat' (first | exact Below.refl _ _ | exact Nat.le_refl _ | (refine Below.alloc ?_ ?_ _) | (refine Below.setCell ?_ ?_ _) | (refine Below.drew ?_) | (refine below_drewN ?_ _) | assumption | (simp; done) | (simp; omega)))) a).mono ?_
      rintro e w1 ⟨rfl, b1⟩
      have BA := Lib.hid (Below.trans (by repeat' (first | exact Below.refl _ _ | exact Nat.le_refl _ | (refine Below.alloc ?_ ?_ _) | (refine Below.setCell ?_ ?_ _) | (refine Below.drew ?_) | (refine below_drewN ?_ _) | assumption | (simp; done) | (simp; omega))) (b1.mono (by simp)) : Below w.heap.size w w1)
      rw [H2.out]
      clear b1
      go_wp2_with fail
      go_ret
      exact ⟨by rw [F.out]; rfl, BA.out⟩
    | true =>
      have H2 := Lib.hid h2
      clear h2
      go_enter Tryd.func38, Tryd.ntmps38
      go_wp2_with fail
      refine (impl_isPlace p ⟨gA, gc, lA, lc, pA, pc, eA, ec, iA, ic⟩ _ (HP.out.belowA (by repeat' (first | exact Below.refl _ _ | exact Nat.le_refl _ | (refine Below.alloc ?_ ?_ _) | (refine Below.setCell ?_ ?_ _) | (refine Below.drew ?_) | (refine below_drewN ?_ _) | assumption | (simp; done) | (simp; omega)))) a).mono ?_
      rintro e w1 ⟨rfl, b1⟩
      have BA := Lib.hid (Below.trans (by repeat' (first | exact Below.refl _ _ | exact Nat.le_refl _ | (refine Below.alloc ?_ ?_ _) | (refine Below.setCell ?_ ?_ _) | (refine Below.drew ?_) | (refine below_drewN ?_ _) | assumption | (simp; done) | (simp; omega))) (b1.mono (by simp)) : Below w.heap.size w w1)
      have BXA := Lib.hid ((Box5.new w ⟨gA, gc, lA, lc, pA, pc, eA, ec, iA, ic⟩ p 59).below b1)
      rw [H2.out]
      clear b1
      obtain ⟨p0, p1, p2, p3, p4⟩ := BXA.out
      simp only at p0 p1 p2 p3 p4
      go_wp2_with fail
      refine (impl_CodeOk p ⟨gA, gc, lA, lc, pA, pc, eA, ec, iA, ic⟩ _ (HP.out.belowA BA.out) htot).mono ?_
      rintro e w2 ⟨rfl, b1⟩
      have BB := Lib.hid (below_then BA.out b1)
      rw [H1.out]
      clear b1 p0 p1 p2 p3 p4
      go_wp2_with fail
      go_ret
      exact ⟨by rw [F.out]; rfl, BB.out⟩
  | true =>
  have hk := decP_true h1
  cases h2 : inB a 0 ((p.ins.length : Int) - 1) with
  | false =>
    have F := Lib.hid (lineR_no2 (p := p) h2)
    obtain ⟨gA, gc, lA, lc, pA, pc, eA, ec, iA, ic⟩ := x
    have HP := Lib.hid hp
    have hgl := hp.g1
    have hgc := hp.g2
    have hll := hp.l1
    have hlc := hp.l2
    have hpl := hp.p1
    have hpc := hp.p2
    have hel := hp.e1
    have hec := hp.e2
    have hil := hp.i1
    have hic := hp.i2
    simp only at hgl hgc hll hlc hpl hpc hel hec hil hic
    unfold maxLen at hgc hlc hpc hec hic
    have H1 := Lib.hid h1
    have H2 := Lib.hid h2
    clear h1 hp
    unfold V5.val
    simp only
    clear h2
    go_enter Tryd.func38, Tryd.ntmps38
    go_wp2_with fail
    refine (impl_isPlace p ⟨gA, gc, lA, lc, pA, pc, eA, ec, iA, ic⟩ _ (HP.out.belowA (by repeat' (first | exact Below.refl _ _ | exact Nat.le_refl _ | (refine Below.alloc ?_ ?_ _) | (refine Below.setCell ?_ ?_ _) | (refine Below.drew ?_) | (refine below_drewN ?_ _) | assumption | (simp; done) | (simp; omega)))) a).mono ?_
    rintro e w1 ⟨rfl, b1⟩
    have BA := Lib.hid (Below.trans (by repeat' (first | exact Below.refl _ _ | exact Nat.le_refl _ | (refine Below.alloc ?_ ?_ _) | (refine Below.setCell ?_ ?_ _) | (refine Below.drew ?_) | (refine below_drewN ?_ _) | assumption | (simp; done) | (simp; omega))) (b1.mono (by simp)) : Below w.heap.size w w1)
    rw [H2.out]
    clear b1
    go_wp2_with fail
    go_ret
    exact ⟨by rw [F.out]; rfl, BA.out⟩
  | true =>
  obtain ⟨ha0, ha1⟩ := inB_dest h2
  obtain ⟨j, rfl⟩ : ∃ j : Nat, a = (j : Int) := ⟨a.toNat, by omega⟩
  have hj : j < p.ins.length := by omega
  rw [lineR_yes hk hj]
  have hin := inB_dest (ins_in hk hj).1
  have hcs : p.ins[j].op = 1 ∨ p.ins[j].op = 2 ∨ p.ins[j].op = 3 ∨ p.ins[j].op = 4 ∨ p.ins[j].op = 5 ∨ p.ins[j].op = 6 ∨ p.ins[j].op = 7 ∨ p.ins[j].op = 8 ∨ p.ins[j].op = 9 := by omega
  rcases hcs with h | h | h | h | h | h | h | h | h
  · exact impl_InsLine_1 p x w hp htot hk j hj h tab
  · exact impl_InsLine_2 p x w hp htot hk j hj h tab
  · exact impl_InsLine_3 p x w hp htot hk j hj h tab
  · exact impl_InsLine_4 p x w hp htot hk j hj h tab
  · exact impl_InsLine_5 p x w hp htot hk j hj h tab
  · exact impl_InsLine_6 p x w hp htot hk j hj h tab
  · exact impl_InsLine_7 p x w hp htot hk j hj h tab
  · exact impl_InsLine_8 p x w hp htot hk j hj h tab
  · exact impl_InsLine_9 p x w hp htot hk j hj h tab
end Go.Proofs.YtefcdpkficojgaaDoor
