/- InsLine in the reference, one walk for each operation. -/
import Derived.Test.YtefcdpkficojgaaDoorCdOkI
import Derived.Test.YtefcdpkficojgaaDoorTxtLaw
namespace Go.Proofs.YtefcdpkficojgaaDoor
open Go.RowKit
set_option linter.unusedVariables false

def nmAt (ss : List ByteArray) (a : Int) : List UInt8 := (ss.getD a.toNat ByteArray.empty).data.toList
def restL (p : Cd) (x : Ic) : List UInt8 :=
  if x.op = 1 then [115, 101, 116, 32] ++ nmAt p.globals x.arg ++ [32, 61, 32] ++ txtR x.term
  else if x.op = 2 then [116, 101, 115, 116, 32] ++ txtR x.term ++ [32, 101, 108, 115, 101, 32] ++ Lib.itoa x.to
  else if x.op = 3 then [106, 117, 109, 112, 32] ++ Lib.itoa x.to
  else if x.op = 4 then [99, 97, 108, 108, 32] ++ nmAt p.procs x.arg
  else if x.op = 5 then [115, 112, 97, 119, 110, 32] ++ nmAt p.procs x.arg
  else if x.op = 6 then [108, 111, 99, 107, 32] ++ nmAt p.locks x.arg
  else if x.op = 7 then [117, 110, 108, 111, 99, 107, 32] ++ nmAt p.locks x.arg
  else if x.op = 8 then [115, 107, 105, 112]
  else [101, 110, 100]
theorem restL_1 {p : Cd} {x : Ic} (h : x.op = 1) : restL p x = [115, 101, 116, 32] ++ nmAt p.globals x.arg ++ [32, 61, 32] ++ txtR x.term := by unfold restL; rw [if_pos h]
theorem restL_2 {p : Cd} {x : Ic} (h : x.op = 2) : restL p x = [116, 101, 115, 116, 32] ++ txtR x.term ++ [32, 101, 108, 115, 101, 32] ++ Lib.itoa x.to := by unfold restL; rw [if_neg (by omega), if_pos h]
theorem restL_3 {p : Cd} {x : Ic} (h : x.op = 3) : restL p x = [106, 117, 109, 112, 32] ++ Lib.itoa x.to := by unfold restL; rw [if_neg (by omega) ,if_neg (by omega), if_pos h]
theorem restL_4 {p : Cd} {x : Ic} (h : x.op = 4) : restL p x = [99, 97, 108, 108, 32] ++ nmAt p.procs x.arg := by unfold restL; rw [if_neg (by omega) ,if_neg (by omega) ,if_neg (by omega), if_pos h]
theorem restL_5 {p : Cd} {x : Ic} (h : x.op = 5) : restL p x = [115, 112, 97, 119, 110, 32] ++ nmAt p.procs x.arg := by unfold restL; rw [if_neg (by omega) ,if_neg (by omega) ,if_neg (by omega) ,if_neg (by omega), if_pos h]
theorem restL_6 {p : Cd} {x : Ic} (h : x.op = 6) : restL p x = [108, 111, 99, 107, 32] ++ nmAt p.locks x.arg := by unfold restL; rw [if_neg (by omega) ,if_neg (by omega) ,if_neg (by omega) ,if_neg (by omega) ,if_neg (by omega), if_pos h]
theorem restL_7 {p : Cd} {x : Ic} (h : x.op = 7) : restL p x = [117, 110, 108, 111, 99, 107, 32] ++ nmAt p.locks x.arg := by unfold restL; rw [if_neg (by omega) ,if_neg (by omega) ,if_neg (by omega) ,if_neg (by omega) ,if_neg (by omega) ,if_neg (by omega), if_pos h]
theorem restL_8 {p : Cd} {x : Ic} (h : x.op = 8) : restL p x = [115, 107, 105, 112] := by unfold restL; rw [if_neg (by omega) ,if_neg (by omega) ,if_neg (by omega) ,if_neg (by omega) ,if_neg (by omega) ,if_neg (by omega) ,if_neg (by omega), if_pos h]
theorem restL_9 {p : Cd} {x : Ic} (h : x.op = 9) : restL p x = [101, 110, 100] := by unfold restL; rw [if_neg (by omega) ,if_neg (by omega) ,if_neg (by omega) ,if_neg (by omega) ,if_neg (by omega) ,if_neg (by omega) ,if_neg (by omega) ,if_neg (by omega)]
def lineL (p : Cd) (x : Ic) (j : Nat) : List UInt8 := Lib.itoa (j : Int) ++ [32] ++ restL p x
noncomputable def lineR (p : Cd) (a : Int) : List UInt8 := if (decP (CodOk p) && inB a 0 ((p.ins.length : Int) - 1)) = true then ((p.ins[a.toNat]?).map fun x => lineL p x a.toNat).getD [] else []
theorem lineR_no1 {p : Cd} {a : Int} (h : decP (CodOk p) = false) : lineR p a = [] := by unfold lineR; rw [h]; rfl
theorem lineR_no2 {p : Cd} {a : Int} (h : inB a 0 ((p.ins.length : Int) - 1) = false) : lineR p a = [] := by unfold lineR; rw [h, Bool.and_false]; rfl
theorem lineR_yes {p : Cd} {j : Nat} (h : CodOk p) (hj : j < p.ins.length) : lineR p (j : Int) = lineL p p.ins[j] j := by
  unfold lineR
  rw [decP_yes h, inBi_yes (by omega) (by omega), Int.toNat_natCast, List.getElem?_eq_getElem hj]; rfl
theorem txtR_len (t : Tm) : (txtR t).length ≤ 2000 := by
  unfold txtR
  split
  · next h => have := txt_len 6 t h; omega
  · simp
theorem nmAt_get {ss : List ByteArray} {a : Nat} (h : a < ss.length) : nmAt ss (a : Int) = ss[a].data.toList := by
  unfold nmAt; rw [Int.toNat_natCast, List.getD_eq_getElem?_getD, List.getElem?_eq_getElem h]; rfl
theorem name_small {m : Nat} {ss : List ByteArray} (h : namesB m ss = true) {a : Nat} (ha : a < ss.length) : ss[a].size ≤ 12 := by
  unfold namesB at h
  rw [Bool.and_eq_true, List.all_eq_true] at h
  have := name_len (h.2 ss[a] (List.getElem_mem ha))
  simpa using this
theorem itoa_20 (n : Int) (h0 : -9223372036854775808 ≤ n) (h1 : n ≤ 9223372036854775807) : (Lib.itoa n).length ≤ 21 := Lib.itoa_length_le n (by omega) (by omega)
/-- what a right instruction of an operation has -/
theorem ins_in {p : Cd} (h : CodOk p) {j : Nat} (hj : j < p.ins.length) : inB p.ins[j].op 1 9 = true ∧ inB p.ins[j].arg 0 (mostC p p.ins[j].op) = true := by
  have := h.ins j hj
  unfold insB at this
  simp only [Bool.and_eq_true] at this
  exact ⟨this.1.1.1, this.1.1.2⟩
theorem nam_g {p : Cd} (h : namB p = true) : namesB 6 p.globals = true := by unfold namB at h; simp only [Bool.and_eq_true] at h; exact h.1.1.1.1.1.1
theorem nam_l {p : Cd} (h : namB p = true) : namesB 6 p.locks = true := by unfold namB at h; simp only [Bool.and_eq_true] at h; exact h.1.1.1.1.1.2
theorem nam_p {p : Cd} (h : namB p = true) : namesB 8 p.procs = true := by unfold namB at h; simp only [Bool.and_eq_true] at h; exact h.1.1.1.1.2

set_option maxHeartbeats 3200000 in
set_option maxRecDepth 100000 in
theorem spec_InsLine_1 (p : Cd) (x : V5) (w : World) (hp : CdIs w x p) (htot : totCd p ≤ 1048576) (hk : CodOk p) (j : Nat) (hj : j < p.ins.length) (hop : p.ins[j].op = 1) :
    Calls Tryd.prog 36 #[x.val p, .int .i64 (j : Int)] w fun e w' => e = .returned (.string ⟨(lineL p p.ins[j] j).toArray⟩) ∧ Below w.heap.size w w' := by
  obtain ⟨gA, gc, lA, lc, pA, pc, eA, ec, iA, ic⟩ := x
  obtain ⟨b, off, ⟨yo, ya, yk, yn, ys, yA, ym, yc, yt⟩, e1, _, _, hI⟩ := rd_ins hp.i3 hj
  simp only at e1
  subst e1
  have HP := Lib.hid hp
  have hgl := hp.g1
  have hgc := hp.g2
  have hll := hp.l1
  have hlc := hp.l2
  have hpl := hp.p1
  have hpc := hp.p2
  have hel := hp.e1
  have hec := hp.e2
  have hil := hp.i1
  have hic := hp.i2
  simp only at hgl hgc hll hlc hpl hpc hel hec hil hic
  unfold maxLen at hgc hlc hpc hec hic
  have HK := Lib.hid hk
  have H1 := Lib.hid (decP_yes hk)
  obtain ⟨ho, ha, hto, io, ia, ito, hT⟩ := hI
  simp only [V7.term] at ho ha hto io ia ito hT
  have IN := Lib.hid (ins_in hk hj).2
  have h0j : (0 : Int) ≤ (j : Int) := by omega
  have h1j : (j : Int) < (p.ins.length : Int) := by omega
  have q2 : inB (j : Int) 0 ((p.ins.length : Int) - 1) = true := inBi_yes (by omega) (by omega)
  have HR := Lib.hid hp.i3
  have HQ := Lib.hid hp
  clear hp hk hT ho ha hto
  unfold V5.val
  simp only
  obtain ⟨an, han⟩ : ∃ an : Nat, p.ins[j].arg = (an : Int) := ⟨p.ins[j].arg.toNat, by have := (inB_dest IN.out).1; omega⟩
  have hal : an < p.globals.length := by
    have := (inB_dest IN.out).2
    rw [hop, han, show mostC p 1 = (p.globals.length : Int) - 1 from rfl] at this
    omega
  have hsm := name_small (nam_g HK.out.head.nam) hal
  have h0a : (0 : Int) ≤ (an : Int) := by omega
  have h1a : (an : Int) < (p.globals.length : Int) := by omega
  have HAN := Lib.hid han
  obtain ⟨F, hF⟩ : ∃ F : ByteArray, ⟨(lineL p p.ins[j] j).toArray⟩ = F := ⟨_, rfl⟩
  have FS : Hid ((⟨(Lib.itoa (j : Int)).toArray⟩ : ByteArray) ++ (⟨#[32]⟩ : ByteArray) ++ (⟨#[115, 101, 116, 32]⟩ : ByteArray) ++ p.globals[an] ++ (⟨#[32, 61, 32]⟩ : ByteArray) ++ ⟨(txtR p.ins[j].term).toArray⟩ = F) := Lib.hid (by
    rw [← hF, lineL, restL_1 hop, HAN.out, nmAt_get hal]
    apply str_ext
    simp)
  rw [hF]
  clear hF
  have hjl := itoa_20 (j : Int) (by omega) (by omega)
  have hxl := txtR_len p.ins[j].term
  have HO := Lib.hid hop
  clear hop io ia han
  go_enter Tryd.func36, Tryd.ntmps36
  go_wp2_with fail
  refine (spec_CodeOk p ⟨gA, gc, lA, lc, pA, pc, eA, ec, some ⟨b, off, none⟩, ic⟩ _ (HQ.out.belowA (by repeat' (first | exact Below.refl _ _ | exact Nat.le_refl _ | (refine Below.alloc ?_ ?_ _) | (refine Below.setCell ?_ ?_ _) | (refine Below.drew ?_) | (refine below_drewN ?_ _) | assumption | (simp; done) | (simp; omega)))) htot).mono ?_
  rintro e w2 ⟨rfl, b1⟩
  have BB := Lib.hid (Below.trans (by repeat' (first | exact Below.refl _ _ | exact Nat.le_refl _ | (refine Below.alloc ?_ ?_ _) | (refine Below.setCell ?_ ?_ _) | (refine Below.drew ?_) | (refine below_drewN ?_ _) | assumption | (simp; done) | (simp; omega))) (b1.mono (by simp)) : Below w.heap.size w w2)
  have BX := Lib.hid ((Box5.new w ⟨gA, gc, lA, lc, pA, pc, eA, ec, some ⟨b, off, none⟩, ic⟩ p 59).below b1)
  rw [H1.out]
  clear b1
  obtain ⟨p0, p1, p2, p3, p4⟩ := BX.out
  simp only at p0 p1 p2 p3 p4
  obtain ⟨b', off', ⟨yo', ya', yk', yn', ys', yA', ym', yc', yt'⟩, e1, _, ⟨d0, d1, d2, d3, d4, d5, d6⟩, hI⟩ := rd_ins (HR.out.belowA BB.out) hj
  injection e1 with e1
  injection e1 with e2 e3
  subst e2 e3
  obtain ⟨ho, ha, hto, _, _, _, hT⟩ := hI
  simp only [V7.term] at ho ha hto hT d0 d1 d2 d3 d4 d5 d6
  rw [HO.out] at ho
  subst ho ha hto
  have HT := Lib.hid hT
  have CX0 := Lib.hid (Cells7.new w2 ⟨1, p.ins[j].arg, yk', yn', ys', yA', ym', yc', p.ins[j].to⟩ 130)
  clear hT
  go_wp2_with (go_at_call 64; (with_reducible refine (in_litC q2 _).mono ?_); rintro e w' ⟨rfl, rfl⟩)
  refine (spec_Decimal (j : Int) (by omega) (by omega) _).mono ?_
  rintro e w4 ⟨rfl, b4⟩
  have B4 := Lib.hid (below_then BB.out (Below.trans (Below.alloc (Below.refl _ _) (Nat.le_refl _) _) (b4.mono (by simp))))
  have BX4 := Lib.hid (BX.out.below (Below.trans (Below.alloc (Below.refl _ _) (Nat.le_refl _) _) (b4.mono (by simp))))
  have CX4 := Lib.hid (CX0.out.below b4)
  have HT4 := Lib.hid (HT.out.belowA (Below.trans (Below.alloc (Below.refl _ _) (Nat.le_refl _) _) (b4.mono (by simp))))
  clear b4 d0 d1 d2 d3 d4 d5 d6 p0 p1 p2 p3 p4 BX CX0 HT
  generalize Lib.itoa (j : Int) = J at *
  obtain ⟨nb, noff, e1, ncell⟩ := rd_str (HQ.out.belowA B4.out).g3 hal
  simp only at e1
  subst e1
  generalize hnm : p.globals[an] = nm at *
  have NC := Lib.hid ncell
  have HNM := Lib.hid hnm
  clear hnm
  obtain ⟨p0, p1, p2, p3, p4⟩ := BX4.out
  obtain ⟨r0, r1, r2, r3, r4, r5, r6⟩ := CX4.out
  simp only at p0 p1 p2 p3 p4 r0 r1 r2 r3 r4 r5 r6
  rw [HAN.out] at r1
  go_wp2_with fail
  clear p0 p1 p2 p3 p4 r0 r1 r2 r3 r4 r5 r6 ncell
  refine wp_region_later (by kernel_rfl) (by kernel_rfl) ?_
  intro gw hgw hcw
  have HG := Lib.hid hgw
  have HC := Lib.hid hcw
  clear hgw hcw
  have P := Lib.hid (fun n => BX4.out.below (HG.out n))
  have C := Lib.hid (fun n => CX4.out.below (HG.out n))
  have p0 : ∀ n, (gw n).cell? ⟨w.heap.size, 0, none⟩ = some (.slice (some ⟨nb, noff, none⟩) p.globals.length gc) := fun n => (P.out n).1
  have p1 : ∀ n, (gw n).cell? ⟨w.heap.size, 1, none⟩ = some (.slice lA p.locks.length lc) := fun n => (P.out n).2.1
  have p2 : ∀ n, (gw n).cell? ⟨w.heap.size, 2, none⟩ = some (.slice pA p.procs.length pc) := fun n => (P.out n).2.2.1
  have r0 : ∀ n, (gw n).cell? ⟨w2.heap.size, 0, none⟩ = some (.int .i64 1) := fun n => (C.out n).1
  have r1 : ∀ n, (gw n).cell? ⟨w2.heap.size, 1, none⟩ = some (.int .i64 (an : Int)) := fun n => by rw [← HAN.out]; exact (C.out n).2.1
  have r2 : ∀ n, (gw n).cell? ⟨w2.heap.size, 2, none⟩ = some (.int .i64 yk') := fun n => (C.out n).2.2.1
  have r3 : ∀ n, (gw n).cell? ⟨w2.heap.size, 3, none⟩ = some (.int .i64 yn') := fun n => (C.out n).2.2.2.1
  have r4 : ∀ n, (gw n).cell? ⟨w2.heap.size, 4, none⟩ = some (.string ys') := fun n => (C.out n).2.2.2.2.1
  have r5 : ∀ n, (gw n).cell? ⟨w2.heap.size, 5, none⟩ = some (.slice yA' ym' yc') := fun n => (C.out n).2.2.2.2.2.1
  have r6 : ∀ n, (gw n).cell? ⟨w2.heap.size, 6, none⟩ = some (.int .i64 p.ins[j].to) := fun n => (C.out n).2.2.2.2.2.2
  have nc : ∀ n, (gw n).cell? ⟨nb, noff + an, none⟩ = some (.string nm) := fun n => cell_keep (HG.out n) NC.out
  have QT := Lib.hid (fun m => spec_TermText p.ins[j].term yk' yn' ys' yA' ym' yc' (gw m) (HT4.out.belowA (HG.out m)))
  generalize txtR p.ins[j].term = T at *
  repeat (go_big_quiet_step ((first | (go_at_call 90; exact later_of HC (QT.out _)))))
  refine wpQuiet_nil ?_
  intro _ hw'
  obtain ⟨nq, hw''⟩ := hw'
  subst hw''
  clear p0 p1 p2 r0 r1 r2 r3 r4 r5 r6 nc
  go_wp2_with fail
  go_ret
  exact ⟨ret_str FS.out, below_then B4.out (HG.out _)⟩
set_option maxHeartbeats 3200000 in
set_option maxRecDepth 100000 in
theorem spec_InsLine_2 (p : Cd) (x : V5) (w : World) (hp : CdIs w x p) (htot : totCd p ≤ 1048576) (hk : CodOk p) (j : Nat) (hj : j < p.ins.length) (hop : p.ins[j].op = 2) :
    Calls Tryd.prog 36 #[x.val p, .int .i64 (j : Int)] w fun e w' => e = .returned (.string ⟨(lineL p p.ins[j] j).toArray⟩) ∧ Below w.heap.size w w' := by
  obtain ⟨gA, gc, lA, lc, pA, pc, eA, ec, iA, ic⟩ := x
  obtain ⟨b, off, ⟨yo, ya, yk, yn, ys, yA, ym, yc, yt⟩, e1, _, _, hI⟩ := rd_ins hp.i3 hj
  simp only at e1
  subst e1
  have HP := Lib.hid hp
  have hgl := hp.g1
  have hgc := hp.g2
  have hll := hp.l1
  have hlc := hp.l2
  have hpl := hp.p1
  have hpc := hp.p2
  have hel := hp.e1
  have hec := hp.e2
  have hil := hp.i1
  have hic := hp.i2
  simp only at hgl hgc hll hlc hpl hpc hel hec hil hic
  unfold maxLen at hgc hlc hpc hec hic
  have HK := Lib.hid hk
  have H1 := Lib.hid (decP_yes hk)
  obtain ⟨ho, ha, hto, io, ia, ito, hT⟩ := hI
  simp only [V7.term] at ho ha hto io ia ito hT
  have IN := Lib.hid (ins_in hk hj).2
  have h0j : (0 : Int) ≤ (j : Int) := by omega
  have h1j : (j : Int) < (p.ins.length : Int) := by omega
  have q2 : inB (j : Int) 0 ((p.ins.length : Int) - 1) = true := inBi_yes (by omega) (by omega)
  have HR := Lib.hid hp.i3
  have HQ := Lib.hid hp
  clear hp hk hT ho ha hto
  unfold V5.val
  simp only
  obtain ⟨F, hF⟩ : ∃ F : ByteArray, ⟨(lineL p p.ins[j] j).toArray⟩ = F := ⟨_, rfl⟩
  have FS : Hid ((⟨(Lib.itoa (j : Int)).toArray⟩ : ByteArray) ++ (⟨#[32]⟩ : ByteArray) ++ (⟨#[116, 101, 115, 116, 32]⟩ : ByteArray) ++ ⟨(txtR p.ins[j].term).toArray⟩ ++ (⟨#[32, 101, 108, 115, 101, 32]⟩ : ByteArray) ++ ⟨(Lib.itoa p.ins[j].to).toArray⟩ = F) := Lib.hid (by
    rw [← hF, lineL, restL_2 hop]
    apply str_ext
    simp)
  rw [hF]
  clear hF
  have htl := itoa_20 p.ins[j].to ito.1 ito.2
  have hjl := itoa_20 (j : Int) (by omega) (by omega)
  have hxl := txtR_len p.ins[j].term
  have HO := Lib.hid hop
  clear hop io ia
  go_enter Tryd.func36, Tryd.ntmps36
  go_wp2_with fail
  refine (spec_CodeOk p ⟨gA, gc, lA, lc, pA, pc, eA, ec, some ⟨b, off, none⟩, ic⟩ _ (HQ.out.belowA (by repeat' (first | exact Below.refl _ _ | exact Nat.le_refl _ | (refine Below.alloc ?_ ?_ _) | (refine Below.setCell ?_ ?_ _) | (refine Below.drew ?_) | (refine below_drewN ?_ _) | assumption | (simp; done) | (simp; omega)))) htot).mono ?_
  rintro e w2 ⟨rfl, b1⟩
  have BB := Lib.hid (Below.trans (by repeat' (first | exact Below.refl _ _ | exact Nat.le_refl _ | (refine Below.alloc ?_ ?_ _) | (refine Below.setCell ?_ ?_ _) | (refine Below.drew ?_) | (refine below_drewN ?_ _) | assumption | (simp; done) | (simp; omega))) (b1.mono (by simp)) : Below w.heap.size w w2)
  have BX := Lib.hid ((Box5.new w ⟨gA, gc, lA, lc, pA, pc, eA, ec, some ⟨b, off, none⟩, ic⟩ p 59).below b1)
  rw [H1.out]
  clear b1
  obtain ⟨p0, p1, p2, p3, p4⟩ := BX.out
  simp only at p0 p1 p2 p3 p4
  obtain ⟨b', off', ⟨yo', ya', yk', yn', ys', yA', ym', yc', yt'⟩, e1, _, ⟨d0, d1, d2, d3, d4, d5, d6⟩, hI⟩ := rd_ins (HR.out.belowA BB.out) hj
  injection e1 with e1
  injection e1 with e2 e3
  subst e2 e3
  obtain ⟨ho, ha, hto, _, _, _, hT⟩ := hI
  simp only [V7.term] at ho ha hto hT d0 d1 d2 d3 d4 d5 d6
  rw [HO.out] at ho
  subst ho ha hto
  have HT := Lib.hid hT
  have CX0 := Lib.hid (Cells7.new w2 ⟨2, p.ins[j].arg, yk', yn', ys', yA', ym', yc', p.ins[j].to⟩ 130)
  clear hT
  go_wp2_with (go_at_call 64; (with_reducible refine (in_litC q2 _).mono ?_); rintro e w' ⟨rfl, rfl⟩)
  refine (spec_Decimal (j : Int) (by omega) (by omega) _).mono ?_
  rintro e w4 ⟨rfl, b4⟩
  have B4 := Lib.hid (below_then BB.out (Below.trans (Below.alloc (Below.refl _ _) (Nat.le_refl _) _) (b4.mono (by simp))))
  have BX4 := Lib.hid (BX.out.below (Below.trans (Below.alloc (Below.refl _ _) (Nat.le_refl _) _) (b4.mono (by simp))))
  have CX4 := Lib.hid (CX0.out.below b4)
  have HT4 := Lib.hid (HT.out.belowA (Below.trans (Below.alloc (Below.refl _ _) (Nat.le_refl _) _) (b4.mono (by simp))))
  clear b4 d0 d1 d2 d3 d4 d5 d6 p0 p1 p2 p3 p4 BX CX0 HT
  generalize Lib.itoa (j : Int) = J at *
  obtain ⟨p0, p1, p2, p3, p4⟩ := BX4.out
  obtain ⟨r0, r1, r2, r3, r4, r5, r6⟩ := CX4.out
  simp only at p0 p1 p2 p3 p4 r0 r1 r2 r3 r4 r5 r6
  go_wp2_with fail
  clear p0 p1 p2 p3 p4 r0 r1 r2 r3 r4 r5 r6
  refine wp_region_later (by kernel_rfl) (by kernel_rfl) ?_
  intro gw hgw hcw
  have HG := Lib.hid hgw
  have HC := Lib.hid hcw
  clear hgw hcw
  have P := Lib.hid (fun n => BX4.out.below (HG.out n))
  have C := Lib.hid (fun n => CX4.out.below (HG.out n))
  have p0 : ∀ n, (gw n).cell? ⟨w.heap.size, 0, none⟩ = some (.slice gA p.globals.length gc) := fun n => (P.out n).1
  have p1 : ∀ n, (gw n).cell? ⟨w.heap.size, 1, none⟩ = some (.slice lA p.locks.length lc) := fun n => (P.out n).2.1
  have p2 : ∀ n, (gw n).cell? ⟨w.heap.size, 2, none⟩ = some (.slice pA p.procs.length pc) := fun n => (P.out n).2.2.1
  have r0 : ∀ n, (gw n).cell? ⟨w2.heap.size, 0, none⟩ = some (.int .i64 2) := fun n => (C.out n).1
  have r1 : ∀ n, (gw n).cell? ⟨w2.heap.size, 1, none⟩ = some (.int .i64 p.ins[j].arg) := fun n => (C.out n).2.1
  have r2 : ∀ n, (gw n).cell? ⟨w2.heap.size, 2, none⟩ = some (.int .i64 yk') := fun n => (C.out n).2.2.1
  have r3 : ∀ n, (gw n).cell? ⟨w2.heap.size, 3, none⟩ = some (.int .i64 yn') := fun n => (C.out n).2.2.2.1
  have r4 : ∀ n, (gw n).cell? ⟨w2.heap.size, 4, none⟩ = some (.string ys') := fun n => (C.out n).2.2.2.2.1
  have r5 : ∀ n, (gw n).cell? ⟨w2.heap.size, 5, none⟩ = some (.slice yA' ym' yc') := fun n => (C.out n).2.2.2.2.2.1
  have r6 : ∀ n, (gw n).cell? ⟨w2.heap.size, 6, none⟩ = some (.int .i64 p.ins[j].to) := fun n => (C.out n).2.2.2.2.2.2
  have QT := Lib.hid (fun m => spec_TermText p.ins[j].term yk' yn' ys' yA' ym' yc' (gw m) (HT4.out.belowA (HG.out m)))
  have QD := Lib.hid (fun m => spec_Decimal p.ins[j].to ito.1 ito.2 (gw m))
  generalize txtR p.ins[j].term = T at *
  generalize Lib.itoa p.ins[j].to = D at *
  repeat (go_big_quiet_step ((first | (go_at_call 90; exact later_of HC (QT.out _)) | (go_at_call 89; exact later_of HC (QD.out _)))))
  refine wpQuiet_nil ?_
  intro _ hw'
  obtain ⟨nq, hw''⟩ := hw'
  subst hw''
  clear p0 p1 p2 r0 r1 r2 r3 r4 r5 r6
  go_wp2_with fail
  go_ret
  exact ⟨ret_str FS.out, below_then B4.out (HG.out _)⟩
set_option maxHeartbeats 3200000 in
set_option maxRecDepth 100000 in
theorem spec_InsLine_3 (p : Cd) (x : V5) (w : World) (hp : CdIs w x p) (htot : totCd p ≤ 1048576) (hk : CodOk p) (j : Nat) (hj : j < p.ins.length) (hop : p.ins[j].op = 3) :
    Calls Tryd.prog 36 #[x.val p, .int .i64 (j : Int)] w fun e w' => e = .returned (.string ⟨(lineL p p.ins[j] j).toArray⟩) ∧ Below w.heap.size w w' := by
  obtain ⟨gA, gc, lA, lc, pA, pc, eA, ec, iA, ic⟩ := x
  obtain ⟨b, off, ⟨yo, ya, yk, yn, ys, yA, ym, yc, yt⟩, e1, _, _, hI⟩ := rd_ins hp.i3 hj
  simp only at e1
  subst e1
  have HP := Lib.hid hp
  have hgl := hp.g1
  have hgc := hp.g2
  have hll := hp.l1
  have hlc := hp.l2
  have hpl := hp.p1
  have hpc := hp.p2
  have hel := hp.e1
  have hec := hp.e2
  have hil := hp.i1
  have hic := hp.i2
  simp only at hgl hgc hll hlc hpl hpc hel hec hil hic
  unfold maxLen at hgc hlc hpc hec hic
  have HK := Lib.hid hk
  have H1 := Lib.hid (decP_yes hk)
  obtain ⟨ho, ha, hto, io, ia, ito, hT⟩ := hI
  simp only [V7.term] at ho ha hto io ia ito hT
  have IN := Lib.hid (ins_in hk hj).2
  have h0j : (0 : Int) ≤ (j : Int) := by omega
  have h1j : (j : Int) < (p.ins.length : Int) := by omega
  have q2 : inB (j : Int) 0 ((p.ins.length : Int) - 1) = true := inBi_yes (by omega) (by omega)
  have HR := Lib.hid hp.i3
  have HQ := Lib.hid hp
  clear hp hk hT ho ha hto
  unfold V5.val
  simp only
  obtain ⟨F, hF⟩ : ∃ F : ByteArray, ⟨(lineL p p.ins[j] j).toArray⟩ = F := ⟨_, rfl⟩
  have FS : Hid ((⟨(Lib.itoa (j : Int)).toArray⟩ : ByteArray) ++ (⟨#[32]⟩ : ByteArray) ++ (⟨#[106, 117, 109, 112, 32]⟩ : ByteArray) ++ ⟨(Lib.itoa p.ins[j].to).toArray⟩ = F) := Lib.hid (by
    rw [← hF, lineL, restL_3 hop]
    apply str_ext
    simp)
  rw [hF]
  clear hF
  have htl := itoa_20 p.ins[j].to ito.1 ito.2
  have hjl := itoa_20 (j : Int) (by omega) (by omega)
  have hxl := txtR_len p.ins[j].term
  have HO := Lib.hid hop
  clear hop io ia
  go_enter Tryd.func36, Tryd.ntmps36
  go_wp2_with fail
  refine (spec_CodeOk p ⟨gA, gc, lA, lc, pA, pc, eA, ec, some ⟨b, off, none⟩, ic⟩ _ (HQ.out.belowA (by repeat' (first | exact Below.refl _ _ | exact Nat.le_refl _ | (refine Below.alloc ?_ ?_ _) | (refine Below.setCell ?_ ?_ _) | (refine Below.drew ?_) | (refine below_drewN ?_ _) | assumption | (simp; done) | (simp; omega)))) htot).mono ?_
  rintro e w2 ⟨rfl, b1⟩
  have BB := Lib.hid (Below.trans (by repeat' (first | exact Below.refl _ _ | exact Nat.le_refl _ | (refine Below.alloc ?_ ?_ _) | (refine Below.setCell ?_ ?_ _) | (refine Below.drew ?_) | (refine below_drewN ?_ _) | assumption | (simp; done) | (simp; omega))) (b1.mono (by simp)) : Below w.heap.size w w2)
  have BX := Lib.hid ((Box5.new w ⟨gA, gc, lA, lc, pA, pc, eA, ec, some ⟨b, off, none⟩, ic⟩ p 59).below b1)
  rw [H1.out]
  clear b1
  obtain ⟨p0, p1, p2, p3, p4⟩ := BX.out
  simp only at p0 p1 p2 p3 p4
  obtain ⟨b', off', ⟨yo', ya', yk', yn', ys', yA', ym', yc', yt'⟩, e1, _, ⟨d0, d1, d2, d3, d4, d5, d6⟩, hI⟩ := rd_ins (HR.out.belowA BB.out) hj
  injection e1 with e1
  injection e1 with e2 e3
  subst e2 e3
  obtain ⟨ho, ha, hto, _, _, _, hT⟩ := hI
  simp only [V7.term] at ho ha hto hT d0 d1 d2 d3 d4 d5 d6
  rw [HO.out] at ho
  subst ho ha hto
  have HT := Lib.hid hT
  have CX0 := Lib.hid (Cells7.new w2 ⟨3, p.ins[j].arg, yk', yn', ys', yA', ym', yc', p.ins[j].to⟩ 130)
  clear hT
  go_wp2_with (go_at_call 64; (with_reducible refine (in_litC q2 _).mono ?_); rintro e w' ⟨rfl, rfl⟩)
  refine (spec_Decimal (j : Int) (by omega) (by omega) _).mono ?_
  rintro e w4 ⟨rfl, b4⟩
  have B4 := Lib.hid (below_then BB.out (Below.trans (Below.alloc (Below.refl _ _) (Nat.le_refl _) _) (b4.mono (by simp))))
  have BX4 := Lib.hid (BX.out.below (Below.trans (Below.alloc (Below.refl _ _) (Nat.le_refl _) _) (b4.mono (by simp))))
  have CX4 := Lib.hid (CX0.out.below b4)
  have HT4 := Lib.hid (HT.out.belowA (Below.trans (Below.alloc (Below.refl _ _) (Nat.le_refl _) _) (b4.mono (by simp))))
  clear b4 d0 d1 d2 d3 d4 d5 d6 p0 p1 p2 p3 p4 BX CX0 HT
  generalize Lib.itoa (j : Int) = J at *
  obtain ⟨p0, p1, p2, p3, p4⟩ := BX4.out
  obtain ⟨r0, r1, r2, r3, r4, r5, r6⟩ := CX4.out
  simp only at p0 p1 p2 p3 p4 r0 r1 r2 r3 r4 r5 r6
  go_wp2_with fail
  refine (spec_Decimal p.ins[j].to ito.1 ito.2 _).mono ?_
  rintro e w5 ⟨rfl, b5⟩
  have B5 := Lib.hid (below_then B4.out b5)
  clear b5 p0 p1 p2 p3 p4 r0 r1 r2 r3 r4 r5 r6
  generalize Lib.itoa p.ins[j].to = T at *
  go_wp2_with fail
  go_ret
  exact ⟨ret_str FS.out, B5.out⟩
set_option maxHeartbeats 3200000 in
set_option maxRecDepth 100000 in
theorem spec_InsLine_4 (p : Cd) (x : V5) (w : World) (hp : CdIs w x p) (htot : totCd p ≤ 1048576) (hk : CodOk p) (j : Nat) (hj : j < p.ins.length) (hop : p.ins[j].op = 4) :
    Calls Tryd.prog 36 #[x.val p, .int .i64 (j : Int)] w fun e w' => e = .returned (.string ⟨(lineL p p.ins[j] j).toArray⟩) ∧ Below w.heap.size w w' := by
  obtain ⟨gA, gc, lA, lc, pA, pc, eA, ec, iA, ic⟩ := x
  obtain ⟨b, off, ⟨yo, ya, yk, yn, ys, yA, ym, yc, yt⟩, e1, _, _, hI⟩ := rd_ins hp.i3 hj
  simp only at e1
  subst e1
  have HP := Lib.hid hp
  have hgl := hp.g1
  have hgc := hp.g2
  have hll := hp.l1
  have hlc := hp.l2
  have hpl := hp.p1
  have hpc := hp.p2
  have hel := hp.e1
  have hec := hp.e2
  have hil := hp.i1
  have hic := hp.i2
  simp only at hgl hgc hll hlc hpl hpc hel hec hil hic
  unfold maxLen at hgc hlc hpc hec hic
  have HK := Lib.hid hk
  have H1 := Lib.hid (decP_yes hk)
  obtain ⟨ho, ha, hto, io, ia, ito, hT⟩ := hI
  simp only [V7.term] at ho ha hto io ia ito hT
  have IN := Lib.hid (ins_in hk hj).2
  have h0j : (0 : Int) ≤ (j : Int) := by omega
  have h1j : (j : Int) < (p.ins.length : Int) := by omega
  have q2 : inB (j : Int) 0 ((p.ins.length : Int) - 1) = true := inBi_yes (by omega) (by omega)
  have HR := Lib.hid hp.i3
  have HQ := Lib.hid hp
  clear hp hk hT ho ha hto
  unfold V5.val
  simp only
  obtain ⟨an, han⟩ : ∃ an : Nat, p.ins[j].arg = (an : Int) := ⟨p.ins[j].arg.toNat, by have := (inB_dest IN.out).1; omega⟩
  have hal : an < p.procs.length := by
    have := (inB_dest IN.out).2
    rw [hop, han, show mostC p 4 = (p.procs.length : Int) - 1 from rfl] at this
    omega
  have hsm := name_small (nam_p HK.out.head.nam) hal
  have h0a : (0 : Int) ≤ (an : Int) := by omega
  have h1a : (an : Int) < (p.procs.length : Int) := by omega
  have HAN := Lib.hid han
  obtain ⟨F, hF⟩ : ∃ F : ByteArray, ⟨(lineL p p.ins[j] j).toArray⟩ = F := ⟨_, rfl⟩
  have FS : Hid ((⟨(Lib.itoa (j : Int)).toArray⟩ : ByteArray) ++ (⟨#[32]⟩ : ByteArray) ++ (⟨#[99, 97, 108, 108, 32]⟩ : ByteArray) ++ p.procs[an] = F) := Lib.hid (by
    rw [← hF, lineL, restL_4 hop, HAN.out, nmAt_get hal]
    apply str_ext
    simp)
  rw [hF]
  clear hF
  have hjl := itoa_20 (j : Int) (by omega) (by omega)
  have hxl := txtR_len p.ins[j].term
  have HO := Lib.hid hop
  clear hop io ia han
  go_enter Tryd.func36, Tryd.ntmps36
  go_wp2_with fail
  refine (spec_CodeOk p ⟨gA, gc, lA, lc, pA, pc, eA, ec, some ⟨b, off, none⟩, ic⟩ _ (HQ.out.belowA (by repeat' (first | exact Below.refl _ _ | exact Nat.le_refl _ | (refine Below.alloc ?_ ?_ _) | (refine Below.setCell ?_ ?_ _) | (refine Below.drew ?_) | (refine below_drewN ?_ _) | assumption | (simp; done) | (simp; omega)))) htot).mono ?_
  rintro e w2 ⟨rfl, b1⟩
  have BB := Lib.hid (Below.trans (by repeat' (first | exact Below.refl _ _ | exact Nat.le_refl _ | (refine Below.alloc ?_ ?_ _) | (refine Below.setCell ?_ ?_ _) | (refine Below.drew ?_) | (refine below_drewN ?_ _) | assumption | (simp; done) | (simp; omega))) (b1.mono (by simp)) : Below w.heap.size w w2)
  have BX := Lib.hid ((Box5.new w ⟨gA, gc, lA, lc, pA, pc, eA, ec, some ⟨b, off, none⟩, ic⟩ p 59).below b1)
  rw [H1.out]
  clear b1
  obtain ⟨p0, p1, p2, p3, p4⟩ := BX.out
  simp only at p0 p1 p2 p3 p4
  obtain ⟨b', off', ⟨yo', ya', yk', yn', ys', yA', ym', yc', yt'⟩, e1, _, ⟨d0, d1, d2, d3, d4, d5, d6⟩, hI⟩ := rd_ins (HR.out.belowA BB.out) hj
  injection e1 with e1
  injection e1 with e2 e3
  subst e2 e3
  obtain ⟨ho, ha, hto, _, _, _, hT⟩ := hI
  simp only [V7.term] at ho ha hto hT d0 d1 d2 d3 d4 d5 d6
  rw [HO.out] at ho
  subst ho ha hto
  have HT := Lib.hid hT
  have CX0 := Lib.hid (Cells7.new w2 ⟨4, p.ins[j].arg, yk', yn', ys', yA', ym', yc', p.ins[j].to⟩ 130)
  clear hT
  go_wp2_with (go_at_call 64; (with_reducible refine (in_litC q2 _).mono ?_); rintro e w' ⟨rfl, rfl⟩)
  refine (spec_Decimal (j : Int) (by omega) (by omega) _).mono ?_
  rintro e w4 ⟨rfl, b4⟩
  have B4 := Lib.hid (below_then BB.out (Below.trans (Below.alloc (Below.refl _ _) (Nat.le_refl _) _) (b4.mono (by simp))))
  have BX4 := Lib.hid (BX.out.below (Below.trans (Below.alloc (Below.refl _ _) (Nat.le_refl _) _) (b4.mono (by simp))))
  have CX4 := Lib.hid (CX0.out.below b4)
  have HT4 := Lib.hid (HT.out.belowA (Below.trans (Below.alloc (Below.refl _ _) (Nat.le_refl _) _) (b4.mono (by simp))))
  clear b4 d0 d1 d2 d3 d4 d5 d6 p0 p1 p2 p3 p4 BX CX0 HT
  generalize Lib.itoa (j : Int) = J at *
  obtain ⟨nb, noff, e1, ncell⟩ := rd_str (HQ.out.belowA B4.out).p3 hal
  simp only at e1
  subst e1
  generalize hnm : p.procs[an] = nm at *
  have NC := Lib.hid ncell
  have HNM := Lib.hid hnm
  clear hnm
  obtain ⟨p0, p1, p2, p3, p4⟩ := BX4.out
  obtain ⟨r0, r1, r2, r3, r4, r5, r6⟩ := CX4.out
  simp only at p0 p1 p2 p3 p4 r0 r1 r2 r3 r4 r5 r6
  rw [HAN.out] at r1
  go_wp2_with fail
  go_ret
  exact ⟨ret_str FS.out, B4.out⟩
set_option maxHeartbeats 3200000 in
set_option maxRecDepth 100000 in
theorem spec_InsLine_5 (p : Cd) (x : V5) (w : World) (hp : CdIs w x p) (htot : totCd p ≤ 1048576) (hk : CodOk p) (j : Nat) (hj : j < p.ins.length) (hop : p.ins[j].op = 5) :
    Calls Tryd.prog 36 #[x.val p, .int .i64 (j : Int)] w fun e w' => e = .returned (.string ⟨(lineL p p.ins[j] j).toArray⟩) ∧ Below w.heap.size w w' := by
  obtain ⟨gA, gc, lA, lc, pA, pc, eA, ec, iA, ic⟩ := x
  obtain ⟨b, off, ⟨yo, ya, yk, yn, ys, yA, ym, yc, yt⟩, e1, _, _, hI⟩ := rd_ins hp.i3 hj
  simp only at e1
  subst e1
  have HP := Lib.hid hp
  have hgl := hp.g1
  have hgc := hp.g2
  have hll := hp.l1
  have hlc := hp.l2
  have hpl := hp.p1
  have hpc := hp.p2
  have hel := hp.e1
  have hec := hp.e2
  have hil := hp.i1
  have hic := hp.i2
  simp only at hgl hgc hll hlc hpl hpc hel hec hil hic
  unfold maxLen at hgc hlc hpc hec hic
  have HK := Lib.hid hk
  have H1 := Lib.hid (decP_yes hk)
  obtain ⟨ho, ha, hto, io, ia, ito, hT⟩ := hI
  simp only [V7.term] at ho ha hto io ia ito hT
  have IN := Lib.hid (ins_in hk hj).2
  have h0j : (0 : Int) ≤ (j : Int) := by omega
  have h1j : (j : Int) < (p.ins.length : Int) := by omega
  have q2 : inB (j : Int) 0 ((p.ins.length : Int) - 1) = true := inBi_yes (by omega) (by omega)
  have HR := Lib.hid hp.i3
  have HQ := Lib.hid hp
  clear hp hk hT ho ha hto
  unfold V5.val
  simp only
  obtain ⟨an, han⟩ : ∃ an : Nat, p.ins[j].arg = (an : Int) := ⟨p.ins[j].arg.toNat, by have := (inB_dest IN.out).1; omega⟩
  have hal : an < p.procs.length := by
    have := (inB_dest IN.out).2
    rw [hop, han, show mostC p 5 = (p.procs.length : Int) - 1 from rfl] at this
    omega
  have hsm := name_small (nam_p HK.out.head.nam) hal
  have h0a : (0 : Int) ≤ (an : Int) := by omega
  have h1a : (an : Int) < (p.procs.length : Int) := by omega
  have HAN := Lib.hid han
  obtain ⟨F, hF⟩ : ∃ F : ByteArray, ⟨(lineL p p.ins[j] j).toArray⟩ = F := ⟨_, rfl⟩
  have FS : Hid ((⟨(Lib.itoa (j : Int)).toArray⟩ : ByteArray) ++ (⟨#[32]⟩ : ByteArray) ++ (⟨#[115, 112, 97, 119, 110, 32]⟩ : ByteArray) ++ p.procs[an] = F) := Lib.hid (by
    rw [← hF, lineL, restL_5 hop, HAN.out, nmAt_get hal]
    apply str_ext
    simp)
  rw [hF]
  clear hF
  have hjl := itoa_20 (j : Int) (by omega) (by omega)
  have hxl := txtR_len p.ins[j].term
  have HO := Lib.hid hop
  clear hop io ia han
  go_enter Tryd.func36, Tryd.ntmps36
  go_wp2_with fail
  refine (spec_CodeOk p ⟨gA, gc, lA, lc, pA, pc, eA, ec, some ⟨b, off, none⟩, ic⟩ _ (HQ.out.belowA (by repeat' (first | exact Below.refl _ _ | exact Nat.le_refl _ | (refine Below.alloc ?_ ?_ _) | (refine Below.setCell ?_ ?_ _) | (refine Below.drew ?_) | (refine below_drewN ?_ _) | assumption | (simp; done) | (simp; omega)))) htot).mono ?_
  rintro e w2 ⟨rfl, b1⟩
  have BB := Lib.hid (Below.trans (by repeat' (first | exact Below.refl _ _ | exact Nat.le_refl _ | (refine Below.alloc ?_ ?_ _) | (refine Below.setCell ?_ ?_ _) | (refine Below.drew ?_) | (refine below_drewN ?_ _) | assumption | (simp; done) | (simp; omega))) (b1.mono (by simp)) : Below w.heap.size w w2)
  have BX := Lib.hid ((Box5.new w ⟨gA, gc, lA, lc, pA, pc, eA, ec, some ⟨b, off, none⟩, ic⟩ p 59).below b1)
  rw [H1.out]
  clear b1
  obtain ⟨p0, p1, p2, p3, p4⟩ := BX.out
  simp only at p0 p1 p2 p3 p4
  obtain ⟨b', off', ⟨yo', ya', yk', yn', ys', yA', ym', yc', yt'⟩, e1, _, ⟨d0, d1, d2, d3, d4, d5, d6⟩, hI⟩ := rd_ins (HR.out.belowA BB.out) hj
  injection e1 with e1
  injection e1 with e2 e3
  subst e2 e3
  obtain ⟨ho, ha, hto, _, _, _, hT⟩ := hI
  simp only [V7.term] at ho ha hto hT d0 d1 d2 d3 d4 d5 d6
  rw [HO.out] at ho
  subst ho ha hto
  have HT := Lib.hid hT
  have CX0 := Lib.hid (Cells7.new w2 ⟨5, p.ins[j].arg, yk', yn', ys', yA', ym', yc', p.ins[j].to⟩ 130)
  clear hT
  go_wp2_with (go_at_call 64; (with_reducible refine (in_litC q2 _).mono ?_); rintro e w' ⟨rfl, rfl⟩)
  refine (spec_Decimal (j : Int) (by omega) (by omega) _).mono ?_
  rintro e w4 ⟨rfl, b4⟩
  have B4 := Lib.hid (below_then BB.out (Below.trans (Below.alloc (Below.refl _ _) (Nat.le_refl _) _) (b4.mono (by simp))))
  have BX4 := Lib.hid (BX.out.below (Below.trans (Below.alloc (Below.refl _ _) (Nat.le_refl _) _) (b4.mono (by simp))))
  have CX4 := Lib.hid (CX0.out.below b4)
  have HT4 := Lib.hid (HT.out.belowA (Below.trans (Below.alloc (Below.refl _ _) (Nat.le_refl _) _) (b4.mono (by simp))))
  clear b4 d0 d1 d2 d3 d4 d5 d6 p0 p1 p2 p3 p4 BX CX0 HT
  generalize Lib.itoa (j : Int) = J at *
  obtain ⟨nb, noff, e1, ncell⟩ := rd_str (HQ.out.belowA B4.out).p3 hal
  simp only at e1
  subst e1
  generalize hnm : p.procs[an] = nm at *
  have NC := Lib.hid ncell
  have HNM := Lib.hid hnm
  clear hnm
  obtain ⟨p0, p1, p2, p3, p4⟩ := BX4.out
  obtain ⟨r0, r1, r2, r3, r4, r5, r6⟩ := CX4.out
  simp only at p0 p1 p2 p3 p4 r0 r1 r2 r3 r4 r5 r6
  rw [HAN.out] at r1
  go_wp2_with fail
  go_ret
  exact ⟨ret_str FS.out, B4.out⟩
set_option maxHeartbeats 3200000 in
set_option maxRecDepth 100000 in
theorem spec_InsLine_6 (p : Cd) (x : V5) (w : World) (hp : CdIs w x p) (htot : totCd p ≤ 1048576) (hk : CodOk p) (j : Nat) (hj : j < p.ins.length) (hop : p.ins[j].op = 6) :
    Calls Tryd.prog 36 #[x.val p, .int .i64 (j : Int)] w fun e w' => e = .returned (.string ⟨(lineL p p.ins[j] j).toArray⟩) ∧ Below w.heap.size w w' := by
  obtain ⟨gA, gc, lA, lc, pA, pc, eA, ec, iA, ic⟩ := x
  obtain ⟨b, off, ⟨yo, ya, yk, yn, ys, yA, ym, yc, yt⟩, e1, _, _, hI⟩ := rd_ins hp.i3 hj
  simp only at e1
  subst e1
  have HP := Lib.hid hp
  have hgl := hp.g1
  have hgc := hp.g2
  have hll := hp.l1
  have hlc := hp.l2
  have hpl := hp.p1
  have hpc := hp.p2
  have hel := hp.e1
  have hec := hp.e2
  have hil := hp.i1
  have hic := hp.i2
  simp only at hgl hgc hll hlc hpl hpc hel hec hil hic
  unfold maxLen at hgc hlc hpc hec hic
  have HK := Lib.hid hk
  have H1 := Lib.hid (decP_yes hk)
  obtain ⟨ho, ha, hto, io, ia, ito, hT⟩ := hI
  simp only [V7.term] at ho ha hto io ia ito hT
  have IN := Lib.hid (ins_in hk hj).2
  have h0j : (0 : Int) ≤ (j : Int) := by omega
  have h1j : (j : Int) < (p.ins.length : Int) := by omega
  have q2 : inB (j : Int) 0 ((p.ins.length : Int) - 1) = true := inBi_yes (by omega) (by omega)
  have HR := Lib.hid hp.i3
  have HQ := Lib.hid hp
  clear hp hk hT ho ha hto
  unfold V5.val
  simp only
  obtain ⟨an, han⟩ : ∃ an : Nat, p.ins[j].arg = (an : Int) := ⟨p.ins[j].arg.toNat, by have := (inB_dest IN.out).1; omega⟩
  have hal : an < p.locks.length := by
    have := (inB_dest IN.out).2
    rw [hop, han, show mostC p 6 = (p.locks.length : Int) - 1 from rfl] at this
    omega
  have hsm := name_small (nam_l HK.out.head.nam) hal
  have h0a : (0 : Int) ≤ (an : Int) := by omega
  have h1a : (an : Int) < (p.locks.length : Int) := by omega
  have HAN := Lib.hid han
  obtain ⟨F, hF⟩ : ∃ F : ByteArray, ⟨(lineL p p.ins[j] j).toArray⟩ = F := ⟨_, rfl⟩
  have FS : Hid ((⟨(Lib.itoa (j : Int)).toArray⟩ : ByteArray) ++ (⟨#[32]⟩ : ByteArray) ++ (⟨#[108, 111, 99, 107, 32]⟩ : ByteArray) ++ p.locks[an] = F) := Lib.hid (by
    rw [← hF, lineL, restL_6 hop, HAN.out, nmAt_get hal]
    apply str_ext
    simp)
  rw [hF]
  clear hF
  have hjl := itoa_20 (j : Int) (by omega) (by omega)
  have hxl := txtR_len p.ins[j].term
  have HO := Lib.hid hop
  clear hop io ia han
  go_enter Tryd.func36, Tryd.ntmps36
  go_wp2_with fail
  refine (spec_CodeOk p ⟨gA, gc, lA, lc, pA, pc, eA, ec, some ⟨b, off, none⟩, ic⟩ _ (HQ.out.belowA (by repeat' (first | exact Below.refl _ _ | exact Nat.le_refl _ | (refine Below.alloc ?_ ?_ _) | (refine Below.setCell ?_ ?_ _) | (refine Below.drew ?_) | (refine below_drewN ?_ _) | assumption | (simp; done) | (simp; omega)))) htot).mono ?_
  rintro e w2 ⟨rfl, b1⟩
  have BB := Lib.hid (Below.trans (by repeat' (first | exact Below.refl _ _ | exact Nat.le_refl _ | (refine Below.alloc ?_ ?_ _) | (refine Below.setCell ?_ ?_ _) | (refine Below.drew ?_) | (refine below_drewN ?_ _) | assumption | (simp; done) | (simp; omega))) (b1.mono (by simp)) : Below w.heap.size w w2)
  have BX := Lib.hid ((Box5.new w ⟨gA, gc, lA, lc, pA, pc, eA, ec, some ⟨b, off, none⟩, ic⟩ p 59).below b1)
  rw [H1.out]
  clear b1
  obtain ⟨p0, p1, p2, p3, p4⟩ := BX.out
  simp only at p0 p1 p2 p3 p4
  obtain ⟨b', off', ⟨yo', ya', yk', yn', ys', yA', ym', yc', yt'⟩, e1, _, ⟨d0, d1, d2, d3, d4, d5, d6⟩, hI⟩ := rd_ins (HR.out.belowA BB.out) hj
  injection e1 with e1
  injection e1 with e2 e3
  subst e2 e3
  obtain ⟨ho, ha, hto, _, _, _, hT⟩ := hI
  simp only [V7.term] at ho ha hto hT d0 d1 d2 d3 d4 d5 d6
  rw [HO.out] at ho
  subst ho ha hto
  have HT := Lib.hid hT
  have CX0 := Lib.hid (Cells7.new w2 ⟨6, p.ins[j].arg, yk', yn', ys', yA', ym', yc', p.ins[j].to⟩ 130)
  clear hT
  go_wp2_with (go_at_call 64; (with_reducible refine (in_litC q2 _).mono ?_); rintro e w' ⟨rfl, rfl⟩)
  refine (spec_Decimal (j : Int) (by omega) (by omega) _).mono ?_
  rintro e w4 ⟨rfl, b4⟩
  have B4 := Lib.hid (below_then BB.out (Below.trans (Below.alloc (Below.refl _ _) (Nat.le_refl _) _) (b4.mono (by simp))))
  have BX4 := Lib.hid (BX.out.below (Below.trans (Below.alloc (Below.refl _ _) (Nat.le_refl _) _) (b4.mono (by simp))))
  have CX4 := Lib.hid (CX0.out.below b4)
  have HT4 := Lib.hid (HT.out.belowA (Below.trans (Below.alloc (Below.refl _ _) (Nat.le_refl _) _) (b4.mono (by simp))))
  clear b4 d0 d1 d2 d3 d4 d5 d6 p0 p1 p2 p3 p4 BX CX0 HT
  generalize Lib.itoa (j : Int) = J at *
  obtain ⟨nb, noff, e1, ncell⟩ := rd_str (HQ.out.belowA B4.out).l3 hal
  simp only at e1
  subst e1
  generalize hnm : p.locks[an] = nm at *
  have NC := Lib.hid ncell
  have HNM := Lib.hid hnm
  clear hnm
  obtain ⟨p0, p1, p2, p3, p4⟩ := BX4.out
  obtain ⟨r0, r1, r2, r3, r4, r5, r6⟩ := CX4.out
  simp only at p0 p1 p2 p3 p4 r0 r1 r2 r3 r4 r5 r6
  rw [HAN.out] at r1
  go_wp2_with fail
  go_ret
  exact ⟨ret_str FS.out, B4.out⟩
set_option maxHeartbeats 3200000 in
set_option maxRecDepth 100000 in
theorem spec_InsLine_7 (p : Cd) (x : V5) (w : World) (hp : CdIs w x p) (htot : totCd p ≤ 1048576) (hk : CodOk p) (j : Nat) (hj : j < p.ins.length) (hop : p.ins[j].op = 7) :
    Calls Tryd.prog 36 #[x.val p, .int .i64 (j : Int)] w fun e w' => e = .returned (.string ⟨(lineL p p.ins[j] j).toArray⟩) ∧ Below w.heap.size w w' := by
  obtain ⟨gA, gc, lA, lc, pA, pc, eA, ec, iA, ic⟩ := x
  obtain ⟨b, off, ⟨yo, ya, yk, yn, ys, yA, ym, yc, yt⟩, e1, _, _, hI⟩ := rd_ins hp.i3 hj
  simp only at e1
  subst e1
  have HP := Lib.hid hp
  have hgl := hp.g1
  have hgc := hp.g2
  have hll := hp.l1
  have hlc := hp.l2
  have hpl := hp.p1
  have hpc := hp.p2
  have hel := hp.e1
  have hec := hp.e2
  have hil := hp.i1
  have hic := hp.i2
  simp only at hgl hgc hll hlc hpl hpc hel hec hil hic
  unfold maxLen at hgc hlc hpc hec hic
  have HK := Lib.hid hk
  have H1 := Lib.hid (decP_yes hk)
  obtain ⟨ho, ha, hto, io, ia, ito, hT⟩ := hI
  simp only [V7.term] at ho ha hto io ia ito hT
  have IN := Lib.hid (ins_in hk hj).2
  have h0j : (0 : Int) ≤ (j : Int) := by omega
  have h1j : (j : Int) < (p.ins.length : Int) := by omega
  have q2 : inB (j : Int) 0 ((p.ins.length : Int) - 1) = true := inBi_yes (by omega) (by omega)
  have HR := Lib.hid hp.i3
  have HQ := Lib.hid hp
  clear hp hk hT ho ha hto
  unfold V5.val
  simp only
  obtain ⟨an, han⟩ : ∃ an : Nat, p.ins[j].arg = (an : Int) := ⟨p.ins[j].arg.toNat, by have := (inB_dest IN.out).1; omega⟩
  have hal : an < p.locks.length := by
    have := (inB_dest IN.out).2
    rw [hop, han, show mostC p 7 = (p.locks.length : Int) - 1 from rfl] at this
    omega
  have hsm := name_small (nam_l HK.out.head.nam) hal
  have h0a : (0 : Int) ≤ (an : Int) := by omega
  have h1a : (an : Int) < (p.locks.length : Int) := by omega
  have HAN := Lib.hid han
  obtain ⟨F, hF⟩ : ∃ F : ByteArray, ⟨(lineL p p.ins[j] j).toArray⟩ = F := ⟨_, rfl⟩
  have FS : Hid ((⟨(Lib.itoa (j : Int)).toArray⟩ : ByteArray) ++ (⟨#[32]⟩ : ByteArray) ++ (⟨#[117, 110, 108, 111, 99, 107, 32]⟩ : ByteArray) ++ p.locks[an] = F) := Lib.hid (by
    rw [← hF, lineL, restL_7 hop, HAN.out, nmAt_get hal]
    apply str_ext
    simp)
  rw [hF]
  clear hF
  have hjl := itoa_20 (j : Int) (by omega) (by omega)
  have hxl := txtR_len p.ins[j].term
  have HO := Lib.hid hop
  clear hop io ia han
  go_enter Tryd.func36, Tryd.ntmps36
  go_wp2_with fail
  refine (spec_CodeOk p ⟨gA, gc, lA, lc, pA, pc, eA, ec, some ⟨b, off, none⟩, ic⟩ _ (HQ.out.belowA (by repeat' (first | exact Below.refl _ _ | exact Nat.le_refl _ | (refine Below.alloc ?_ ?_ _) | (refine Below.setCell ?_ ?_ _) | (refine Below.drew ?_) | (refine below_drewN ?_ _) | assumption | (simp; done) | (simp; omega)))) htot).mono ?_
  rintro e w2 ⟨rfl, b1⟩
  have BB := Lib.hid (Below.trans (by repeat' (first | exact Below.refl _ _ | exact Nat.le_refl _ | (refine Below.alloc ?_ ?_ _) | (refine Below.setCell ?_ ?_ _) | (refine Below.drew ?_) | (refine below_drewN ?_ _) | assumption | (simp; done) | (simp; omega))) (b1.mono (by simp)) : Below w.heap.size w w2)
  have BX := Lib.hid ((Box5.new w ⟨gA, gc, lA, lc, pA, pc, eA, ec, some ⟨b, off, none⟩, ic⟩ p 59).below b1)
  rw [H1.out]
  clear b1
  obtain ⟨p0, p1, p2, p3, p4⟩ := BX.out
  simp only at p0 p1 p2 p3 p4
  obtain ⟨b', off', ⟨yo', ya', yk', yn', ys', yA', ym', yc', yt'⟩, e1, _, ⟨d0, d1, d2, d3, d4, d5, d6⟩, hI⟩ := rd_ins (HR.out.belowA BB.out) hj
  injection e1 with e1
  injection e1 with e2 e3
  subst e2 e3
  obtain ⟨ho, ha, hto, _, _, _, hT⟩ := hI
  simp only [V7.term] at ho ha hto hT d0 d1 d2 d3 d4 d5 d6
  rw [HO.out] at ho
  subst ho ha hto
  have HT := Lib.hid hT
  have CX0 := Lib.hid (Cells7.new w2 ⟨7, p.ins[j].arg, yk', yn', ys', yA', ym', yc', p.ins[j].to⟩ 130)
  clear hT
  go_wp2_with (go_at_call 64; (with_reducible refine (in_litC q2 _).mono ?_); rintro e w' ⟨rfl, rfl⟩)
  refine (spec_Decimal (j : Int) (by omega) (by omega) _).mono ?_
  rintro e w4 ⟨rfl, b4⟩
  have B4 := Lib.hid (below_then BB.out (Below.trans (Below.alloc (Below.refl _ _) (Nat.le_refl _) _) (b4.mono (by simp))))
  have BX4 := Lib.hid (BX.out.below (Below.trans (Below.alloc (Below.refl _ _) (Nat.le_refl _) _) (b4.mono (by simp))))
  have CX4 := Lib.hid (CX0.out.below b4)
  have HT4 := Lib.hid (HT.out.belowA (Below.trans (Below.alloc (Below.refl _ _) (Nat.le_refl _) _) (b4.mono (by simp))))
  clear b4 d0 d1 d2 d3 d4 d5 d6 p0 p1 p2 p3 p4 BX CX0 HT
  generalize Lib.itoa (j : Int) = J at *
  obtain ⟨nb, noff, e1, ncell⟩ := rd_str (HQ.out.belowA B4.out).l3 hal
  simp only at e1
  subst e1
  generalize hnm : p.locks[an] = nm at *
  have NC := Lib.hid ncell
  have HNM := Lib.hid hnm
  clear hnm
  obtain ⟨p0, p1, p2, p3, p4⟩ := BX4.out
  obtain ⟨r0, r1, r2, r3, r4, r5, r6⟩ := CX4.out
  simp only at p0 p1 p2 p3 p4 r0 r1 r2 r3 r4 r5 r6
  rw [HAN.out] at r1
  go_wp2_with fail
  go_ret
  exact ⟨ret_str FS.out, B4.out⟩
set_option maxHeartbeats 3200000 in
set_option maxRecDepth 100000 in
theorem spec_InsLine_8 (p : Cd) (x : V5) (w : World) (hp : CdIs w x p) (htot : totCd p ≤ 1048576) (hk : CodOk p) (j : Nat) (hj : j < p.ins.length) (hop : p.ins[j].op = 8) :
    Calls Tryd.prog 36 #[x.val p, .int .i64 (j : Int)] w fun e w' => e = .returned (.string ⟨(lineL p p.ins[j] j).toArray⟩) ∧ Below w.heap.size w w' := by
  obtain ⟨gA, gc, lA, lc, pA, pc, eA, ec, iA, ic⟩ := x
  obtain ⟨b, off, ⟨yo, ya, yk, yn, ys, yA, ym, yc, yt⟩, e1, _, _, hI⟩ := rd_ins hp.i3 hj
  simp only at e1
  subst e1
  have HP := Lib.hid hp
  have hgl := hp.g1
  have hgc := hp.g2
  have hll := hp.l1
  have hlc := hp.l2
  have hpl := hp.p1
  have hpc := hp.p2
  have hel := hp.e1
  have hec := hp.e2
  have hil := hp.i1
  have hic := hp.i2
  simp only at hgl hgc hll hlc hpl hpc hel hec hil hic
  unfold maxLen at hgc hlc hpc hec hic
  have HK := Lib.hid hk
  have H1 := Lib.hid (decP_yes hk)
  obtain ⟨ho, ha, hto, io, ia, ito, hT⟩ := hI
  simp only [V7.term] at ho ha hto io ia ito hT
  have IN := Lib.hid (ins_in hk hj).2
  have h0j : (0 : Int) ≤ (j : Int) := by omega
  have h1j : (j : Int) < (p.ins.length : Int) := by omega
  have q2 : inB (j : Int) 0 ((p.ins.length : Int) - 1) = true := inBi_yes (by omega) (by omega)
  have HR := Lib.hid hp.i3
  have HQ := Lib.hid hp
  clear hp hk hT ho ha hto
  unfold V5.val
  simp only
  obtain ⟨F, hF⟩ : ∃ F : ByteArray, ⟨(lineL p p.ins[j] j).toArray⟩ = F := ⟨_, rfl⟩
  have FS : Hid ((⟨(Lib.itoa (j : Int)).toArray⟩ : ByteArray) ++ (⟨#[32]⟩ : ByteArray) ++ (⟨#[115, 107, 105, 112]⟩ : ByteArray) = F) := Lib.hid (by
    rw [← hF, lineL, restL_8 hop]
    apply str_ext
    simp)
  rw [hF]
  clear hF
  have hjl := itoa_20 (j : Int) (by omega) (by omega)
  have hxl := txtR_len p.ins[j].term
  have HO := Lib.hid hop
  clear hop io ia
  go_enter Tryd.func36, Tryd.ntmps36
  go_wp2_with fail
  refine (spec_CodeOk p ⟨gA, gc, lA, lc, pA, pc, eA, ec, some ⟨b, off, none⟩, ic⟩ _ (HQ.out.belowA (by repeat' (first | exact Below.refl _ _ | exact Nat.le_refl _ | (refine Below.alloc ?_ ?_ _) | (refine Below.setCell ?_ ?_ _) | (refine Below.drew ?_) | (refine below_drewN ?_ _) | assumption | (simp; done) | (simp; omega)))) htot).mono ?_
  rintro e w2 ⟨rfl, b1⟩
  have BB := Lib.hid (Below.trans (by repeat' (first | exact Below.refl _ _ | exact Nat.le_refl _ | (refine Below.alloc ?_ ?_ _) | (refine Below.setCell ?_ ?_ _) | (refine Below.drew ?_) | (refine below_drewN ?_ _) | assumption | (simp; done) | (simp; omega))) (b1.mono (by simp)) : Below w.heap.size w w2)
  have BX := Lib.hid ((Box5.new w ⟨gA, gc, lA, lc, pA, pc, eA, ec, some ⟨b, off, none⟩, ic⟩ p 59).below b1)
  rw [H1.out]
  clear b1
  obtain ⟨p0, p1, p2, p3, p4⟩ := BX.out
  simp only at p0 p1 p2 p3 p4
  obtain ⟨b', off', ⟨yo', ya', yk', yn', ys', yA', ym', yc', yt'⟩, e1, _, ⟨d0, d1, d2, d3, d4, d5, d6⟩, hI⟩ := rd_ins (HR.out.belowA BB.out) hj
  injection e1 with e1
  injection e1 with e2 e3
  subst e2 e3
  obtain ⟨ho, ha, hto, _, _, _, hT⟩ := hI
  simp only [V7.term] at ho ha hto hT d0 d1 d2 d3 d4 d5 d6
  rw [HO.out] at ho
  subst ho ha hto
  have HT := Lib.hid hT
  have CX0 := Lib.hid (Cells7.new w2 ⟨8, p.ins[j].arg, yk', yn', ys', yA', ym', yc', p.ins[j].to⟩ 130)
  clear hT
  go_wp2_with (go_at_call 64; (with_reducible refine (in_litC q2 _).mono ?_); rintro e w' ⟨rfl, rfl⟩)
  refine (spec_Decimal (j : Int) (by omega) (by omega) _).mono ?_
  rintro e w4 ⟨rfl, b4⟩
  have B4 := Lib.hid (below_then BB.out (Below.trans (Below.alloc (Below.refl _ _) (Nat.le_refl _) _) (b4.mono (by simp))))
  have BX4 := Lib.hid (BX.out.below (Below.trans (Below.alloc (Below.refl _ _) (Nat.le_refl _) _) (b4.mono (by simp))))
  have CX4 := Lib.hid (CX0.out.below b4)
  have HT4 := Lib.hid (HT.out.belowA (Below.trans (Below.alloc (Below.refl _ _) (Nat.le_refl _) _) (b4.mono (by simp))))
  clear b4 d0 d1 d2 d3 d4 d5 d6 p0 p1 p2 p3 p4 BX CX0 HT
  generalize Lib.itoa (j : Int) = J at *
  obtain ⟨p0, p1, p2, p3, p4⟩ := BX4.out
  obtain ⟨r0, r1, r2, r3, r4, r5, r6⟩ := CX4.out
  simp only at p0 p1 p2 p3 p4 r0 r1 r2 r3 r4 r5 r6
  go_wp2_with fail
  go_ret
  exact ⟨ret_str FS.out, B4.out⟩
set_option maxHeartbeats 3200000 in
set_option maxRecDepth 100000 in
theorem spec_InsLine_9 (p : Cd) (x : V5) (w : World) (hp : CdIs w x p) (htot : totCd p ≤ 1048576) (hk : CodOk p) (j : Nat) (hj : j < p.ins.length) (hop : p.ins[j].op = 9) :
    Calls Tryd.prog 36 #[x.val p, .int .i64 (j : Int)] w fun e w' => e = .returned (.string ⟨(lineL p p.ins[j] j).toArray⟩) ∧ Below w.heap.size w w' := by
  obtain ⟨gA, gc, lA, lc, pA, pc, eA, ec, iA, ic⟩ := x
  obtain ⟨b, off, ⟨yo, ya, yk, yn, ys, yA, ym, yc, yt⟩, e1, _, _, hI⟩ := rd_ins hp.i3 hj
  simp only at e1
  subst e1
  have HP := Lib.hid hp
  have hgl := hp.g1
  have hgc := hp.g2
  have hll := hp.l1
  have hlc := hp.l2
  have hpl := hp.p1
  have hpc := hp.p2
  have hel := hp.e1
  have hec := hp.e2
  have hil := hp.i1
  have hic := hp.i2
  simp only at hgl hgc hll hlc hpl hpc hel hec hil hic
  unfold maxLen at hgc hlc hpc hec hic
  have HK := Lib.hid hk
  have H1 := Lib.hid (decP_yes hk)
  obtain ⟨ho, ha, hto, io, ia, ito, hT⟩ := hI
  simp only [V7.term] at ho ha hto io ia ito hT
  have IN := Lib.hid (ins_in hk hj).2
  have h0j : (0 : Int) ≤ (j : Int) := by omega
  have h1j : (j : Int) < (p.ins.length : Int) := by omega
  have q2 : inB (j : Int) 0 ((p.ins.length : Int) - 1) = true := inBi_yes (by omega) (by omega)
  have HR := Lib.hid hp.i3
  have HQ := Lib.hid hp
  clear hp hk hT ho ha hto
  unfold V5.val
  simp only
  obtain ⟨F, hF⟩ : ∃ F : ByteArray, ⟨(lineL p p.ins[j] j).toArray⟩ = F := ⟨_, rfl⟩
  have FS : Hid ((⟨(Lib.itoa (j : Int)).toArray⟩ : ByteArray) ++ (⟨#[32]⟩ : ByteArray) ++ (⟨#[101, 110, 100]⟩ : ByteArray) = F) := Lib.hid (by
    rw [← hF, lineL, restL_9 hop]
    apply str_ext
    simp)
  rw [hF]
  clear hF
  have hjl := itoa_20 (j : Int) (by omega) (by omega)
  have hxl := txtR_len p.ins[j].term
  have HO := Lib.hid hop
  clear hop io ia
  go_enter Tryd.func36, Tryd.ntmps36
  go_wp2_with fail
  refine (spec_CodeOk p ⟨gA, gc, lA, lc, pA, pc, eA, ec, some ⟨b, off, none⟩, ic⟩ _ (HQ.out.belowA (by repeat' (first | exact Below.refl _ _ | exact Nat.le_refl _ | (refine Below.alloc ?_ ?_ _) | (refine Below.setCell ?_ ?_ _) | (refine Below.drew ?_) | (refine below_drewN ?_ _) | assumption | (simp; done) | (simp; omega)))) htot).mono ?_
  rintro e w2 ⟨rfl, b1⟩
  have BB := Lib.hid (Below.trans (by repeat' (first | exact Below.refl _ _ | exact Nat.le_refl _ | (refine Below.alloc ?_ ?_ _) | (refine Below.setCell ?_ ?_ _) | (refine Below.drew ?_) | (refine below_drewN ?_ _) | assumption | (simp; done) | (simp; omega))) (b1.mono (by simp)) : Below w.heap.size w w2)
  have BX := Lib.hid ((Box5.new w ⟨gA, gc, lA, lc, pA, pc, eA, ec, some ⟨b, off, none⟩, ic⟩ p 59).below b1)
  rw [H1.out]
  clear b1
  obtain ⟨p0, p1, p2, p3, p4⟩ := BX.out
  simp only at p0 p1 p2 p3 p4
  obtain ⟨b', off', ⟨yo', ya', yk', yn', ys', yA', ym', yc', yt'⟩, e1, _, ⟨d0, d1, d2, d3, d4, d5, d6⟩, hI⟩ := rd_ins (HR.out.belowA BB.out) hj
  injection e1 with e1
  injection e1 with e2 e3
  subst e2 e3
  obtain ⟨ho, ha, hto, _, _, _, hT⟩ := hI
  simp only [V7.term] at ho ha hto hT d0 d1 d2 d3 d4 d5 d6
  rw [HO.out] at ho
  subst ho ha hto
  have HT := Lib.hid hT
  have CX0 := Lib.hid (Cells7.new w2 ⟨9, p.ins[j].arg, yk', yn', ys', yA', ym', yc', p.ins[j].to⟩ 130)
  clear hT
  go_wp2_with (go_at_call 64; (with_reducible refine (in_litC q2 _).mono ?_); rintro e w' ⟨rfl, rfl⟩)
  refine (spec_Decimal (j : Int) (by omega) (by omega) _).mono ?_
  rintro e w4 ⟨rfl, b4⟩
  have B4 := Lib.hid (below_then BB.out (Below.trans (Below.alloc (Below.refl _ _) (Nat.le_refl _) _) (b4.mono (by simp))))
  have BX4 := Lib.hid (BX.out.below (Below.trans (Below.alloc (Below.refl _ _) (Nat.le_refl _) _) (b4.mono (by simp))))
  have CX4 := Lib.hid (CX0.out.below b4)
  have HT4 := Lib.hid (HT.out.belowA (Below.trans (Below.alloc (Below.refl _ _) (Nat.le_refl _) _) (b4.mono (by simp))))
  clear b4 d0 d1 d2 d3 d4 d5 d6 p0 p1 p2 p3 p4 BX CX0 HT
  generalize Lib.itoa (j : Int) = J at *
  obtain ⟨p0, p1, p2, p3, p4⟩ := BX4.out
  obtain ⟨r0, r1, r2, r3, r4, r5, r6⟩ := CX4.out
  simp only at p0 p1 p2 p3 p4 r0 r1 r2 r3 r4 r5 r6
  go_wp2_with fail
  go_ret
  exact ⟨ret_str FS.out, B4.out⟩
set_option maxHeartbeats 1600000 in
theorem spec_InsLine (p : Cd) (x : V5) (w : World) (hp : CdIs w x p) (htot : totCd p ≤ 1048576) (a : Int) :
    Calls Tryd.prog 36 #[x.val p, .int .i64 a] w fun e w' => e = .returned (.string ⟨(lineR p a).toArray⟩) ∧ Below w.heap.size w w' := by
  cases h1 : decP (CodOk p) with
  | false =>
    have F := Lib.hid (lineR_no1 (a := a) h1)
    obtain ⟨gA, gc, lA, lc, pA, pc, eA, ec, iA, ic⟩ := x
    have HP := Lib.hid hp
    have hgl := hp.g1
    have hgc := hp.g2
    have hll := hp.l1
    have hlc := hp.l2
    have hpl := hp.p1
    have hpc := hp.p2
    have hel := hp.e1
    have hec := hp.e2
    have hil := hp.i1
    have hic := hp.i2
    simp only at hgl hgc hll hlc hpl hpc hel hec hil hic
    unfold maxLen at hgc hlc hpc hec hic
    have H1 := Lib.hid h1
    clear h1 hp
    unfold V5.val
    simp only
    go_enter Tryd.func36, Tryd.ntmps36
    go_wp2_with fail
    refine (spec_CodeOk p ⟨gA, gc, lA, lc, pA, pc, eA, ec, iA, ic⟩ _ (HP.out.belowA (by repeat' (first | exact Below.refl _ _ | exact Nat.le_refl _ | (refine Below.alloc ?_ ?_ _) | (refine Below.setCell ?_ ?_ _) | (refine Below.drew ?_) | (refine below_drewN ?_ _) | assumption | (simp; done) | (simp; omega)))) htot).mono ?_
    rintro e w2 ⟨rfl, b1⟩
    have BB := Lib.hid (Below.trans (by repeat' (first | exact Below.refl _ _ | exact Nat.le_refl _ | (refine Below.alloc ?_ ?_ _) | (refine Below.setCell ?_ ?_ _) | (refine Below.drew ?_) | (refine below_drewN ?_ _) | assumption | (simp; done) | (simp; omega))) (b1.mono (by simp)) : Below w.heap.size w w2)
    rw [H1.out]
    clear b1
    go_wp2_with fail
    go_ret
    exact ⟨by rw [F.out]; rfl, BB.out⟩
  | true =>
  have hk := decP_true h1
  cases h2 : inB a 0 ((p.ins.length : Int) - 1) with
  | false =>
    have F := Lib.hid (lineR_no2 (p := p) h2)
    obtain ⟨gA, gc, lA, lc, pA, pc, eA, ec, iA, ic⟩ := x
    have HP := Lib.hid hp
    have hgl := hp.g1
    have hgc := hp.g2
    have hll := hp.l1
    have hlc := hp.l2
    have hpl := hp.p1
    have hpc := hp.p2
    have hel := hp.e1
    have hec := hp.e2
    have hil := hp.i1
    have hic := hp.i2
    simp only at hgl hgc hll hlc hpl hpc hel hec hil hic
    unfold maxLen at hgc hlc hpc hec hic
    have H1 := Lib.hid h1
    have H2 := Lib.hid h2
    clear h1 hp
    unfold V5.val
    simp only
    go_enter Tryd.func36, Tryd.ntmps36
    go_wp2_with fail
    refine (spec_CodeOk p ⟨gA, gc, lA, lc, pA, pc, eA, ec, iA, ic⟩ _ (HP.out.belowA (by repeat' (first | exact Below.refl _ _ | exact Nat.le_refl _ | (refine Below.alloc ?_ ?_ _) | (refine Below.setCell ?_ ?_ _) | (refine Below.drew ?_) | (refine below_drewN ?_ _) | assumption | (simp; done) | (simp; omega)))) htot).mono ?_
    rintro e w2 ⟨rfl, b1⟩
    have BB := Lib.hid (Below.trans (by repeat' (first | exact Below.refl _ _ | exact Nat.le_refl _ | (refine Below.alloc ?_ ?_ _) | (refine Below.setCell ?_ ?_ _) | (refine Below.drew ?_) | (refine below_drewN ?_ _) | assumption | (simp; done) | (simp; omega))) (b1.mono (by simp)) : Below w.heap.size w w2)
    have BX := Lib.hid ((Box5.new w ⟨gA, gc, lA, lc, pA, pc, eA, ec, iA, ic⟩ p 59).below b1)
    rw [H1.out]
    clear b1
    obtain ⟨p0, p1, p2, p3, p4⟩ := BX.out
    simp only at p0 p1 p2 p3 p4
    go_wp2_with (go_at_call 64; (with_reducible refine (in_litC h2 _).mono ?_); rintro e w' ⟨rfl, rfl⟩)
    go_ret
    exact ⟨by rw [F.out]; rfl, BB.out⟩
  | true =>
  obtain ⟨ha0, ha1⟩ := inB_dest h2
  obtain ⟨j, rfl⟩ : ∃ j : Nat, a = (j : Int) := ⟨a.toNat, by omega⟩
  have hj : j < p.ins.length := by omega
  rw [lineR_yes hk hj]
  have hin := inB_dest (ins_in hk hj).1
  have hcs : p.ins[j].op = 1 ∨ p.ins[j].op = 2 ∨ p.ins[j].op = 3 ∨ p.ins[j].op = 4 ∨ p.ins[j].op = 5 ∨ p.ins[j].op = 6 ∨ p.ins[j].op = 7 ∨ p.ins[j].op = 8 ∨ p.ins[j].op = 9 := by omega
  rcases hcs with h | h | h | h | h | h | h | h | h
  · exact spec_InsLine_1 p x w hp htot hk j hj h
  · exact spec_InsLine_2 p x w hp htot hk j hj h
  · exact spec_InsLine_3 p x w hp htot hk j hj h
  · exact spec_InsLine_4 p x w hp htot hk j hj h
  · exact spec_InsLine_5 p x w hp htot hk j hj h
  · exact spec_InsLine_6 p x w hp htot hk j hj h
  · exact spec_InsLine_7 p x w hp htot hk j hj h
  · exact spec_InsLine_8 p x w hp htot hk j hj h
  · exact spec_InsLine_9 p x w hp htot hk j hj h
end Go.Proofs.YtefcdpkficojgaaDoor
