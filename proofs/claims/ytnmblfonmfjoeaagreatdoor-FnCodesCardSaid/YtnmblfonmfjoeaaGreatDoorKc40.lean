/- Lemmas for the row. -/
import Derived.Test.YtnmblfonmfjoeaaGreatDoorKc39
import Derived.Test.YtnmblfonmfjoeaaGreatDoorShelf
import Derived.Lib.LaidTab
import Derived.Lib.ItoaLen
import Derived.Lib.AppendStr
namespace Go.Proofs.YtnmblfonmfjoeaaGreatDoor
open Go.RowKit
set_option maxHeartbeats 3200000
set_option linter.unusedVariables false
def ProcFine (p : Cd) (i : Nat) : Prop := ∀ j (hj : j < p.ins.length), p.entry.getD i 0 ≤ (j : Int) → (j : Int) < finE p.entry p.ins.length i → insB p p.ins[j] (p.entry.getD i 0) (finE p.entry p.ins.length i - 1) = true
theorem head_fin {p : Cd} (h : HeadOk p) {i : Nat} (hi : i < p.entry.length) : ∃ bn fn : Nat, p.entry[i] = (bn : Int) ∧ finE p.entry p.ins.length i = (fn : Int) ∧ bn < fn ∧ fn ≤ p.ins.length := by
 have h1 := h.ent.rise i hi
 have h2 := h.ent.top i hi
 have h3 := head_nn h i hi
 rw [opsC_len] at h1 h2
 rw [getD_get hi] at h1 h3
 exact ⟨p.entry[i].toNat, (finE p.entry p.ins.length i).toNat, by omega, by omega, by omega, by omega⟩
theorem fine_mk {p : Cd} {i bn fn : Nat} (hi : i < p.entry.length) (hb : p.entry[i] = (bn : Int)) (hf : finE p.entry p.ins.length i = (fn : Int)) (h : ∀ j, j < fn - bn → (hj : bn + j < p.ins.length) → insB p p.ins[bn + j] (bn : Int) ((fn : Int) - 1) = true) : ProcFine p i := by
 intro j hj h1 h2
 rw [getD_get hi, hb] at h1 ⊢
 rw [hf] at h2 ⊢
 have := h (j - bn) (by omega) (by omega)
 have e : bn + (j - bn) = j := by omega
 simp only [e] at this
 exact this
theorem fine_no {p : Cd} {i bn fn j : Nat} (hi : i < p.entry.length) (hb : p.entry[i] = (bn : Int)) (hf : finE p.entry p.ins.length i = (fn : Int)) (hj : bn + j < p.ins.length) (hj2 : j < fn - bn) (h : insB p p.ins[bn + j] (bn : Int) ((fn : Int) - 1) = false) : ¬ CodOk p := fun hc => by
 have := codOk_in hc hi hj (by rw [getD_get hi, hb]; omega) (by rw [hf]; omega)
 rw [getD_get hi, hb, hf, h] at this
 cases this
set_option maxRecDepth 100000 in
theorem impl_CodeOk (p : Cd) (x : V5) (w : World) (hp : CdIs w x p) (htot : totCd p ≤ 1048576) :
  Calls Tryz.prog 8 #[x.val p] w fun e w' => e = .returned (.bool (decP (CodOk p))) ∧ Below w.heap.size w w' := by
 obtain ⟨gA, gc, lA, lc, pA, pc, eA, ec, iA, ic⟩ := x
 have HP := qh hp
 have hgl := hp.g1
 have hgc := hp.g2
 have hll := hp.l1
 have hlc := hp.l2
 have hpl := hp.p1
 have hpc := hp.p2
 have hel := hp.e1
 have hec := hp.e2
 have hil := hp.i1
 have hic := hp.i2
 simp only at hgl hgc hll hlc hpl hpc hel hec hil hic
 clear hp
 unfold V5.val
 simp only
 unfold maxLen at hgc hlc hpc hec hic
 cases hn : namB p with
 | false =>
  have F : Hid (¬ CodOk p) := qh (fun h => by have := h.head.nam; rw [hn] at this; cases this)
  have N := qh hn
  clear hn
  go_enter Tryz.func8, Tryz.ntmps8
  go_wp2_with fail
  refine (impl_namesRight p ⟨gA, gc, lA, lc, pA, pc, eA, ec, iA, ic⟩ _ (HP.out.belowA zB)).mono ?_
  rintro e w1 ⟨rfl, b1⟩
  have BB := qh (Below.trans zB (b1.mono (by simp)) : Below w.heap.size w w1)
  rw [N.out]
  clear b1
  go_wp2_with fail
  go_ret
  exact ⟨ret_bool (decP_no F.out).symm, BB.out⟩
 | true =>
 have N1 := qh hn
 clear hn
 by_cases hh : HeadOk p
 case neg =>
  have F : Hid (¬ CodOk p) := qh (fun h => hh h.head)
  have N := qh (decP_no hh)
  clear hh
  go_enter Tryz.func8, Tryz.ntmps8
  go_wp2_with fail
  refine (impl_namesRight p ⟨gA, gc, lA, lc, pA, pc, eA, ec, iA, ic⟩ _ (HP.out.belowA zB)).mono ?_
  rintro e w1 ⟨rfl, b1⟩
  have BB := qh (Below.trans zB (b1.mono (by simp)) : Below w.heap.size w w1)
  have BX := qh ((Box5.new w ⟨gA, gc, lA, lc, pA, pc, eA, ec, iA, ic⟩ p 32).below b1)
  rw [N1.out]
  clear b1
  obtain ⟨p0, p1, p2, p3, p4⟩ := BX.out
  simp only at p0 p1 p2 p3 p4
  go_wp2_with fail
  refine (impl_entriesRight p ⟨gA, gc, lA, lc, pA, pc, eA, ec, iA, ic⟩ _ (HP.out.belowA BB.out) N1.out).mono ?_
  rintro e w2 ⟨rfl, b2⟩
  have B2 := qh (below_then BB.out b2)
  rw [N.out]
  clear b2 p0 p1 p2 p3 p4
  go_wp2_with fail
  go_ret
  exact ⟨ret_bool (decP_no F.out).symm, B2.out⟩
 have HH := qh hh
 have N := qh (decP_yes hh)
 have hl0 : 0 < p.entry.length := by rw [hh.same]; exact namB_pos hh.nam
 have hn0 : 0 < p.ins.length := by obtain ⟨bn, fn, _, _, h1, h2⟩ := head_fin hh hl0; omega
 obtain ⟨eb, eoff, rfl, _⟩ := rd_int HP.out.e3 hl0
 obtain ⟨ib, ioff, _, e1, _⟩ := rd_ins HP.out.i3 hn0
 simp only at e1
 subst e1
 clear hh
 go_enter Tryz.func8, Tryz.ntmps8
 go_wp2_with fail
 refine (impl_namesRight p ⟨gA, gc, lA, lc, pA, pc, some ⟨eb, eoff, none⟩, ec, some ⟨ib, ioff, none⟩, ic⟩ _ (HP.out.belowA zB)).mono ?_
 rintro e w1 ⟨rfl, b1⟩
 have BB := qh (Below.trans zB (b1.mono (by simp)) : Below w.heap.size w w1)
 have BX := qh ((Box5.new w ⟨gA, gc, lA, lc, pA, pc, some ⟨eb, eoff, none⟩, ec, some ⟨ib, ioff, none⟩, ic⟩ p 32).below b1)
 rw [N1.out]
 clear b1
 obtain ⟨p0, p1, p2, p3, p4⟩ := BX.out
 simp only at p0 p1 p2 p3 p4
 go_wp2_with fail
 refine (impl_entriesRight p ⟨gA, gc, lA, lc, pA, pc, some ⟨eb, eoff, none⟩, ec, some ⟨ib, ioff, none⟩, ic⟩ _ (HP.out.belowA BB.out) N1.out).mono ?_
 rintro e w2 ⟨rfl, b2⟩
 have B2 := qh (And.intro (below_then BB.out b2) (BX.out.below b2))
 rw [N.out]
 clear b2 p0 p1 p2 p3 p4
 obtain ⟨p0, p1, p2, p3, p4⟩ := B2.out.2
 simp only at p0 p1 p2 p3 p4
 go_wp2_with fail
 clear p0 p1 p2 p3 p4
 go_loopw [19] (fun z wr => ∃ k : Nat, k ≤ p.entry.length ∧ z = .int .i64 k ∧ Hid (Below w.heap.size w wr ∧ Box5 wr w.heap.size ⟨gA, gc, lA, lc, pA, pc, some ⟨eb, eoff, none⟩, ec, some ⟨ib, ioff, none⟩, ic⟩ p) ∧ Hid (∀ i, i < k → ProcFine p i)) (fun z _ => p.entry.length - (intOf z).toNat)
 case atStart => exact ⟨0, Nat.zero_le _, rfl, B2, qh (fun i h => by omega)⟩
 case round =>
  obtain ⟨k, hk, rfl, HB, HT⟩ := hrel
  obtain ⟨p0, p1, p2, p3, p4⟩ := HB.out.2
  simp only at p0 p1 p2 p3 p4
  by_cases hlt : k < p.entry.length
  ·obtain ⟨bn, fn, hbn, hfn, hbf, hfl⟩ := head_fin HH.out hlt
   obtain ⟨b', off', e1, hcell⟩ := rd_int (HP.out.belowA HB.out.1).e3 hlt
   simp only at e1
   injection e1 with e1
   injection e1 with e2 e3
   subst e2 e3
   rw [hbn] at hcell
   have BF := qh (And.intro hbn hfn)
   have h0k : (0 : Int) ≤ (k : Int) := by omega
   have h1k : (k : Int) < (p.entry.length : Int) := by omega
   have h2k : (0 : Int) ≤ (bn : Int) := by omega
   have h3k : (bn : Int) ≤ (fn : Int) := by omega
   have h4k : (fn : Int) ≤ (ic : Int) := by omega
   have h5k : bn < ic := by omega
   clear hbn hfn
   rename World => wq
   go_wp2_with fail
   refine (impl_endOfProc p ⟨gA, gc, lA, lc, pA, pc, some ⟨eb, eoff, none⟩, ec, some ⟨ib, ioff, none⟩, ic⟩ _ (HP.out.belowA HB.out.1) k hlt).mono ?_
   rintro e w3 ⟨rfl, b3⟩
   have B3 := qh (And.intro (below_then HB.out.1 b3) (HB.out.2.below b3))
   rw [BF.out.2]
   clear b3 p0 p1 p2 p3 p4 hcell
   obtain ⟨p0, p1, p2, p3, p4⟩ := B3.out.2
   simp only at p0 p1 p2 p3 p4
   go_wp2_with fail
   clear p0 p1 p2 p3 p4
   go_loopw [33] (fun z wr => ∃ m : Nat, m ≤ fn - bn ∧ z = .int .i64 m ∧ Hid (Below w.heap.size w wr ∧ Box5 wr w.heap.size ⟨gA, gc, lA, lc, pA, pc, some ⟨eb, eoff, none⟩, ec, some ⟨ib, ioff, none⟩, ic⟩ p) ∧ Hid (∀ j, j < m → (hj : bn + j < p.ins.length) → insB p p.ins[bn + j] (bn : Int) ((fn : Int) - 1) = true)) (fun z _ => fn - bn - (intOf z).toNat)
   case atStart => exact ⟨0, Nat.zero_le _, rfl, B3, qh (fun j h => by omega)⟩
   case round =>
    obtain ⟨m, hm, rfl, HB, HM⟩ := hrel
    obtain ⟨p0, p1, p2, p3, p4⟩ := HB.out.2
    simp only at p0 p1 p2 p3 p4
    by_cases hltm : m < fn - bn
    ·have hj : bn + m < p.ins.length := by omega
     obtain ⟨ib', ioff', y, e1, _, ⟨d0, d1, d2, d3, d4, d5, d6⟩, hI⟩ := rd_ins (HP.out.belowA HB.out.1).i3 hj
     simp only at e1
     injection e1 with e1
     injection e1 with e2 e3
     subst e2 e3
     have ea : ioff + (bn + m) * 7 = ioff + bn * 7 + m * 7 := by omega
     rw [ea] at d0 d1 d2 d3 d4 d5 d6
     have HI := qh hI
     have htt := ins_tot hj htot
     have h0m : (0 : Int) ≤ (m : Int) := by omega
     have hwb := cell_lt p0
     simp only at hwb
     have h1m : (m : Int) < (fn : Int) - (bn : Int) := by omega
     clear hI ea
     cases hq : insB p p.ins[bn + m] (bn : Int) ((fn : Int) - 1) with
     | false =>
      have F : Hid (¬ CodOk p) := qh (fine_no hlt BF.out.1 BF.out.2 hj hltm hq)
      have HQ := qh hq
      clear hq
      go_wp2_with fail
      refine (impl_insRight p ⟨gA, gc, lA, lc, pA, pc, some ⟨eb, eoff, none⟩, ec, some ⟨ib, ioff, none⟩, ic⟩ p.ins[bn + m] y (bn : Int) (fn : Int) _ (HP.out.belowA (Below.alloc HB.out.1 HB.out.1.size _)) (HI.out.belowA (Below.alloc (Below.refl _ _) (Nat.le_refl _) _)) htt).mono ?_
      rintro e w9 ⟨rfl, b9⟩
      have B9 := qh (below_then (Below.alloc HB.out.1 HB.out.1.size _) b9)
      rw [HQ.out]
      clear b9 p0 p1 p2 p3 p4 d0 d1 d2 d3 d4 d5 d6
      go_wp2_with fail
      go_ret
      exact ⟨ret_bool (decP_no F.out).symm, B9.out⟩
     | true =>
      have T : Hid (∀ j, j < m + 1 → (hj : bn + j < p.ins.length) → insB p p.ins[bn + j] (bn : Int) ((fn : Int) - 1) = true) := qh (fun j h hj => by
       by_cases e : j = m
       ·subst e; exact hq
       ·exact HM.out j (by omega) hj)
      have HQ := qh hq
      clear hq
      go_wp2_with fail
      refine (impl_insRight p ⟨gA, gc, lA, lc, pA, pc, some ⟨eb, eoff, none⟩, ec, some ⟨ib, ioff, none⟩, ic⟩ p.ins[bn + m] y (bn : Int) (fn : Int) _ (HP.out.belowA (Below.alloc HB.out.1 HB.out.1.size _)) (HI.out.belowA (Below.alloc (Below.refl _ _) (Nat.le_refl _) _)) htt).mono ?_
      rintro e w9 ⟨rfl, b9⟩
      have B9 := qh (And.intro (below_then (Below.alloc HB.out.1 HB.out.1.size _) b9) ((HB.out.2.below (Below.alloc (Below.refl _ _) (Nat.le_refl _) _)).below b9))
      rw [HQ.out]
      clear b9 p0 p1 p2 p3 p4 d0 d1 d2 d3 d4 d5 d6
      go_wp2_with fail
      go_roundw
      case rel => exact ⟨m + 1, by omega, by go_num, B9, T⟩
      case measure => simp [intOf]; omega
    ·have T : Hid (∀ i, i < k + 1 → ProcFine p i) := qh (fun i hi => by
      by_cases e : i = k
      ·subst e; exact fine_mk hlt BF.out.1 BF.out.2 (fun j h hj => HM.out j (by omega) hj)
      ·exact HT.out i (by omega))
     have h1m : ¬ (m : Int) < (fn : Int) - (bn : Int) := by omega
     clear p0 p1 p2 p3 p4
     go_wp2_with fail
     go_roundw
     case rel => exact ⟨k + 1, by omega, by go_num, HB, T⟩
     case measure => simp [intOf]; omega
  ·have T : Hid (CodOk p) := qh (codOk_of HH.out (fun i hi => HT.out i (by omega)))
   go_wp2_with fail
   go_ret
   exact ⟨ret_bool (decP_yes T.out).symm, HB.out.1⟩
theorem impl_ProcOf (p : Cd) (x : V5) (w : World) (hp : CdIs w x p) (htot : totCd p ≤ 1048576) (a : Int) :
  Calls Tryz.prog 11 #[x.val p, .int .i64 a] w fun e w' => e = .returned (.int .i64 (procR p a)) ∧ Below w.heap.size w w' := by
 obtain ⟨gA, gc, lA, lc, pA, pc, eA, ec, iA, ic⟩ := x
 have HP := qh hp
 have hgl := hp.g1
 have hgc := hp.g2
 have hll := hp.l1
 have hlc := hp.l2
 have hpl := hp.p1
 have hpc := hp.p2
 have hel := hp.e1
 have hec := hp.e2
 have hil := hp.i1
 have hic := hp.i2
 simp only at hgl hgc hll hlc hpl hpc hel hec hil hic
 clear hp
 unfold V5.val
 simp only
 unfold maxLen at hgc hlc hpc hec hic
 cases h2 : inB a 0 ((p.ins.length : Int) - 1) with
 | false =>
  have F := qh (procR_no2 h2)
  have H2 := qh h2
  clear h2
  go_enter Tryz.func11, Tryz.ntmps11
  go_wp2_with fail
  refine (impl_isPlace p ⟨gA, gc, lA, lc, pA, pc, eA, ec, iA, ic⟩ _ (HP.out.belowA zB) a).mono ?_
  rintro e w1 ⟨rfl, b1⟩
  have BB := qh (Below.trans zB (b1.mono (by simp)) : Below w.heap.size w w1)
  rw [H2.out]
  clear b1
  go_wp2_with fail
  go_ret
  exact ⟨ret_int F.out.symm, BB.out⟩
 | true =>
 have H2 := qh h2
 obtain ⟨ha0, ha1⟩ := inB_dest h2
 clear h2
 cases h1 : decP (CodOk p) with
 | false =>
  have F := qh (procR_no1 (a := a) h1)
  have H1 := qh h1
  clear h1
  go_enter Tryz.func11, Tryz.ntmps11
  go_wp2_with fail
  refine (impl_isPlace p ⟨gA, gc, lA, lc, pA, pc, eA, ec, iA, ic⟩ _ (HP.out.belowA zB) a).mono ?_
  rintro e w1 ⟨rfl, b1⟩
  have BB := qh (Below.trans zB (b1.mono (by simp)) : Below w.heap.size w w1)
  have BX := qh ((Box5.new w ⟨gA, gc, lA, lc, pA, pc, eA, ec, iA, ic⟩ p 32).below b1)
  rw [H2.out]
  clear b1
  obtain ⟨p0, p1, p2, p3, p4⟩ := BX.out
  simp only at p0 p1 p2 p3 p4
  go_wp2_with fail
  refine (impl_CodeOk p ⟨gA, gc, lA, lc, pA, pc, eA, ec, iA, ic⟩ _ (HP.out.belowA BB.out) htot).mono ?_
  rintro e w2 ⟨rfl, b2⟩
  have B2 := qh (below_then BB.out b2)
  rw [H1.out]
  clear b2 p0 p1 p2 p3 p4
  go_wp2_with fail
  go_ret
  exact ⟨ret_int F.out.symm, B2.out⟩
 | true =>
  have F := qh (procR_yes h1 H2.out)
  have HK := qh (decP_true h1)
  have H1 := qh h1
  clear h1
  go_enter Tryz.func11, Tryz.ntmps11
  go_wp2_with fail
  refine (impl_isPlace p ⟨gA, gc, lA, lc, pA, pc, eA, ec, iA, ic⟩ _ (HP.out.belowA zB) a).mono ?_
  rintro e w1 ⟨rfl, b1⟩
  have BB := qh (Below.trans zB (b1.mono (by simp)) : Below w.heap.size w w1)
  have BX := qh ((Box5.new w ⟨gA, gc, lA, lc, pA, pc, eA, ec, iA, ic⟩ p 32).below b1)
  rw [H2.out]
  clear b1
  obtain ⟨p0, p1, p2, p3, p4⟩ := BX.out
  simp only at p0 p1 p2 p3 p4
  go_wp2_with fail
  refine (impl_CodeOk p ⟨gA, gc, lA, lc, pA, pc, eA, ec, iA, ic⟩ _ (HP.out.belowA BB.out) htot).mono ?_
  rintro e w2 ⟨rfl, b2⟩
  have B2 := qh (And.intro (below_then BB.out b2) (BX.out.below b2))
  rw [H1.out]
  clear b2 p0 p1 p2 p3 p4
  obtain ⟨p0, p1, p2, p3, p4⟩ := B2.out.2
  simp only at p0 p1 p2 p3 p4
  go_wp2_with fail
  refine (impl_procIn p ⟨gA, gc, lA, lc, pA, pc, eA, ec, iA, ic⟩ _ (HP.out.belowA B2.out.1) a ha0 HK.out.head).mono ?_
  rintro e w3 ⟨rfl, b3⟩
  have B3 := qh (below_then B2.out.1 b3)
  clear b3 p0 p1 p2 p3 p4
  go_wp2_with fail
  go_ret
  exact ⟨ret_int F.out.symm, B3.out⟩
theorem impl_EndOf (p : Cd) (x : V5) (w : World) (hp : CdIs w x p) (htot : totCd p ≤ 1048576) (a : Int) :
  Calls Tryz.prog 10 #[x.val p, .int .i64 a] w fun e w' => e = .returned (.int .i64 (endR p a)) ∧ Below w.heap.size w w' := by
 obtain ⟨gA, gc, lA, lc, pA, pc, eA, ec, iA, ic⟩ := x
 have HP := qh hp
 have hgl := hp.g1
 have hgc := hp.g2
 have hll := hp.l1
 have hlc := hp.l2
 have hpl := hp.p1
 have hpc := hp.p2
 have hel := hp.e1
 have hec := hp.e2
 have hil := hp.i1
 have hic := hp.i2
 simp only at hgl hgc hll hlc hpl hpc hel hec hil hic
 clear hp
 unfold V5.val
 simp only
 unfold maxLen at hgc hlc hpc hec hic
 by_cases a0 : a < 0
 ·have F := qh (endR_no2 (p := p) (inBi_no (a := a) (b := 0) (c := (p.procs.length : Int) - 1) (by omega)))
  go_enter Tryz.func10, Tryz.ntmps10
  go_wp2_with fail
  go_ret
  exact ⟨ret_int F.out.symm, zB⟩
 by_cases a1 : (p.procs.length : Int) ≤ a
 ·have F := qh (endR_no2 (p := p) (inBi_no (a := a) (b := 0) (c := (p.procs.length : Int) - 1) (by omega)))
  go_enter Tryz.func10, Tryz.ntmps10
  go_wp2_with fail
  go_ret
  exact ⟨ret_int F.out.symm, zB⟩
 have H2 := qh (inBi_yes (a := a) (b := 0) (c := (p.procs.length : Int) - 1) (by omega) (by omega))
 cases h1 : decP (CodOk p) with
 | false =>
  have F := qh (endR_no1 (a := a) h1)
  have H1 := qh h1
  clear h1
  go_enter Tryz.func10, Tryz.ntmps10
  go_wp2_with fail
  refine (impl_CodeOk p ⟨gA, gc, lA, lc, pA, pc, eA, ec, iA, ic⟩ _ (HP.out.belowA zB) htot).mono ?_
  rintro e w2 ⟨rfl, b2⟩
  have B2 := qh (Below.trans zB (b2.mono (by simp)) : Below w.heap.size w w2)
  rw [H1.out]
  clear b2
  go_wp2_with fail
  go_ret
  exact ⟨ret_int F.out.symm, B2.out⟩
 | true =>
  have HK := qh (decP_true h1)
  obtain ⟨j, rfl⟩ : ∃ j : Nat, a = (j : Int) := ⟨a.toNat, by omega⟩
  have hj : j < p.entry.length := by rw [HK.out.head.same]; omega
  obtain ⟨bn, fn, hbn, hfn, hbf, hfl⟩ := head_fin HK.out.head hj
  have F : Hid (endR p (j : Int) = (fn : Int) - 1) := qh (by rw [endR_yes h1 H2.out, endE_fin, hfn])
  have HF := qh hfn
  have H1 := qh h1
  have f1 : (1 : Int) ≤ (fn : Int) := by omega
  clear h1 hbn hfn
  go_enter Tryz.func10, Tryz.ntmps10
  go_wp2_with fail
  refine (impl_CodeOk p ⟨gA, gc, lA, lc, pA, pc, eA, ec, iA, ic⟩ _ (HP.out.belowA zB) htot).mono ?_
  rintro e w2 ⟨rfl, b2⟩
  have B2 := qh (Below.trans zB (b2.mono (by simp)) : Below w.heap.size w w2)
  have BX := qh ((Box5.new w ⟨gA, gc, lA, lc, pA, pc, eA, ec, iA, ic⟩ p 32).below b2)
  rw [H1.out]
  clear b2
  obtain ⟨p0, p1, p2, p3, p4⟩ := BX.out
  simp only at p0 p1 p2 p3 p4
  go_wp2_with fail
  refine (impl_endOfProc p ⟨gA, gc, lA, lc, pA, pc, eA, ec, iA, ic⟩ _ (HP.out.belowA B2.out) j hj).mono ?_
  rintro e w3 ⟨rfl, b3⟩
  have B3 := qh (below_then B2.out b3)
  rw [HF.out]
  clear b3 p0 p1 p2 p3 p4
  go_wp2_with fail
  go_ret
  exact ⟨ret_int F.out.symm, B3.out⟩
def digs (u : Nat) : List UInt8 := if u = 0 then [] else Lib.decDigits u
theorem digs_zero : digs 0 = [] := rfl
theorem digs_step {u : Nat} (h : 0 < u) : digs u = digs (u / 10) ++ [UInt8.ofNat (48 + u % 10)] := by
 unfold digs
 rw [if_neg (by omega), Lib.decDigits]
 by_cases h1 : u < 10
 ·rw [dif_pos h1, if_pos (by omega), List.nil_append, show u % 10 = u from by omega]
 ·rw [dif_neg h1, if_neg (by omega)]
theorem itoa_pos {n : Int} (h : 0 < n) : Lib.itoa n = digs n.natAbs := by
 unfold Lib.itoa digs
 rw [if_neg (by omega), if_neg (by omega)]
 congr 1
 omega
theorem itoa_minus {n : Int} (h : n < 0) : Lib.itoa n = 45 :: digs n.natAbs := by
 unfold Lib.itoa digs
 rw [if_pos h, if_neg (by omega)]
theorem itoa_zero : Lib.itoa 0 = [48] := by
 unfold Lib.itoa
 rw [if_neg (by omega), Lib.decDigits, dif_pos (by decide)]
 rfl
theorem figC_dec {n : Nat} (h : n < 10) : figC n = UInt8.ofNat (48 + n) := by unfold figC; rw [if_pos h]
theorem str_cons (c : UInt8) (l : List UInt8) : (⟨[c].toArray⟩ : ByteArray) ++ ⟨l.toArray⟩ = ⟨(c :: l).toArray⟩ := by
 apply str_ext
 simp
theorem tmod_neg {m : Int} (h : m < 0) : m.tmod 10 = -((m.natAbs % 10 : Nat) : Int) := by
 have e : m = -((m.natAbs : Nat) : Int) := by omega
 rw [e, Int.neg_tmod, Int.tmod_eq_emod_of_nonneg (by omega)]
 omega
theorem tdiv_neg {m : Int} (h : m < 0) : m.tdiv 10 = -((m.natAbs / 10 : Nat) : Int) := by
 have e : m = -((m.natAbs : Nat) : Int) := by omega
 rw [e, Int.neg_tdiv, Int.tdiv_eq_ediv_of_nonneg (by omega)]
 omega
theorem spec_Decimal (n : Int) (h0 : -9223372036854775808 ≤ n) (h1 : n ≤ 9223372036854775807) (w : World) :
  Calls Tryz.prog 36 #[.int .i64 n] w fun e w' => e = .returned (.string ⟨(Lib.itoa n).toArray⟩) ∧ Below w.heap.size w w' := by
 by_cases hz : n = 0
 ·subst hz
  go_enter Tryz.func36, Tryz.ntmps36
  go_wp2_with fail
  go_ret
  exact ⟨by rw [itoa_zero]; rfl, Below.refl _ _⟩
 have hz' : (n == 0) = false := by simpa using hz
 by_cases hn : n < 0
 ·have HT := qh (itoa_minus hn)
  have HN : Hid ((digs n.natAbs).length ≤ 21) := qh (by have := Lib.itoa_length_le n h0 h1; rw [HT.out, List.length_cons] at this; omega)
  go_enter Tryz.func36, Tryz.ntmps36
  go_wp2_with fail
  go_loopw [0, 4] (fun nv sv wr => ∃ (m : Int) (l : List UInt8), m ≤ 0 ∧ n ≤ m ∧ nv = .int .i64 m ∧ sv = .string ⟨l.toArray⟩ ∧ Hid (digs m.natAbs ++ l = digs n.natAbs) ∧ Hid (Below w.heap.size w wr)) (fun nv _ _ => (intOf nv).natAbs)
  case atStart => exact ⟨n, [], by omega, by omega, rfl, rfl, qh (by simp), qh (Below.refl _ _)⟩
  case round =>
   obtain ⟨m, l, hm0, hm1, rfl, rfl, HL, HB⟩ := hrel
   have hll : l.length ≤ 21 := by have h2 := HN.out; rw [← HL.out, List.length_append] at h2; omega
   by_cases hm : m = 0
   ·subst hm
    have HD : Hid (l = digs n.natAbs) := qh (by have := HL.out; simpa [digs_zero] using this)
    have HS : Hid ((⟨#[45]⟩ : ByteArray) ++ ⟨l.toArray⟩ = ⟨(Lib.itoa n).toArray⟩) := qh (by rw [HT.out, ← HD.out]; exact str_cons 45 l)
    go_wp2_with fail
    go_ret
    exact ⟨ret_str HS.out, HB.out⟩
   ·have hm' : (m != 0) = true := by simpa using hm
    have hlt : m < 0 := by omega
    have t3 := tmod_neg hlt
    have d3 := tdiv_neg hlt
    have hu : 0 < m.natAbs := by omega
    have t1 : m.tmod 10 ≤ 0 := by omega
    have t2 : -10 < m.tmod 10 := by omega
    have d1 : m.tdiv 10 ≤ 0 := by omega
    have d2 : n ≤ m.tdiv 10 := by omega
    have hna : (m.tdiv 10).natAbs = m.natAbs / 10 := by omega
    have hnb : (-(m.tmod 10)).toNat = m.natAbs % 10 := by omega
    have hmea : (m.tdiv 10).natAbs < m.natAbs := by omega
    have HL2 : Hid (digs (m.tdiv 10).natAbs ++ (figC (-(m.tmod 10)).toNat :: l) = digs n.natAbs) := qh (by
     rw [hna, hnb, figC_dec (by omega), ← HL.out, digs_step hu]; simp)
    have HM := qh hmea
    clear t3 d3 hna hnb hu hmea
    by_cases t4 : m.tmod 10 < 0
    ·go_wp2_with fail
     refine (spec_l01Figure (-(m.tmod 10)) _ (by omega) (by omega)).mono ?_
     rintro e w1 ⟨rfl, rfl⟩
     generalize hc : figC (-(m.tmod 10)).toNat = fc at *
     clear hc
     have cv := str_run (w := wr.alloc (.cells #[.int .u8 (fc.toNat : Int)] 5)) (A := some ⟨wr.heap.size, 0, none⟩) (n := 1) 1 (l := [fc]) (Rd.new wr 1 1 _ _ rfl)
     have HB2 := qh (HB.out.alloc HB.out.size (.cells #[.int .u8 (fc.toNat : Int)] 5))
     have HC := qh (str_cons fc l)
     go_wp2_with fail
     go_roundw
     case rel => exact ⟨m.tdiv 10, fc :: l, d1, d2, by go_num, by rw [← HC.out], HL2, HB2⟩
     case measure => exact HM.out
    ·have t5 : m.tmod 10 = 0 := by omega
     rw [show (-(m.tmod 10)) = 0 from by omega] at HL2
     go_wp2_with fail
     refine (spec_l01Figure (0) _ (by omega) (by omega)).mono ?_
     rintro e w1 ⟨rfl, rfl⟩
     generalize hc : figC (0 : Int).toNat = fc at *
     clear hc
     have cv := str_run (w := wr.alloc (.cells #[.int .u8 (fc.toNat : Int)] 5)) (A := some ⟨wr.heap.size, 0, none⟩) (n := 1) 1 (l := [fc]) (Rd.new wr 1 1 _ _ rfl)
     have HB2 := qh (HB.out.alloc HB.out.size (.cells #[.int .u8 (fc.toNat : Int)] 5))
     have HC := qh (str_cons fc l)
     go_wp2_with fail
     go_roundw
     case rel => exact ⟨m.tdiv 10, fc :: l, d1, d2, by go_num, by rw [← HC.out], HL2, HB2⟩
     case measure => exact HM.out
 have hp : 0 < n := by omega
 clear hz hz'
 have hz' : (n == 0) = false := by simp; omega
 by_cases hpp : True
 ·have HT := qh (itoa_pos hp)
  have HN : Hid ((digs n.natAbs).length ≤ 21) := qh (by have := Lib.itoa_length_le n h0 h1; rw [HT.out] at this; omega)
  go_enter Tryz.func36, Tryz.ntmps36
  go_wp2_with fail
  go_loopw [0, 4] (fun nv sv wr => ∃ (m : Int) (l : List UInt8), 0 ≤ m ∧ m ≤ n ∧ nv = .int .i64 m ∧ sv = .string ⟨l.toArray⟩ ∧ Hid (digs m.natAbs ++ l = digs n.natAbs) ∧ Hid (Below w.heap.size w wr)) (fun nv _ _ => (intOf nv).natAbs)
  case atStart => exact ⟨n, [], by omega, by omega, rfl, rfl, qh (by simp), qh (Below.refl _ _)⟩
  case round =>
   obtain ⟨m, l, hm0, hm1, rfl, rfl, HL, HB⟩ := hrel
   have hll : l.length ≤ 21 := by have h2 := HN.out; rw [← HL.out, List.length_append] at h2; omega
   by_cases hm : m = 0
   ·subst hm
    have HD : Hid (l = digs n.natAbs) := qh (by have := HL.out; simpa [digs_zero] using this)
    have HS : Hid ((⟨l.toArray⟩ : ByteArray) = ⟨(Lib.itoa n).toArray⟩) := qh (by rw [HT.out, ← HD.out])
    go_wp2_with fail
    go_ret
    exact ⟨ret_str HS.out, HB.out⟩
   ·have hm' : (m != 0) = true := by simpa using hm
    have hlt : 0 < m := by omega
    have hu : 0 < m.natAbs := by omega
    have t1 : 0 ≤ m % 10 := by omega
    have t2 : m % 10 < 10 := by omega
    have d1 : 0 ≤ m / 10 := by omega
    have d2 : m / 10 ≤ n := by omega
    have hna : (m / 10).natAbs = m.natAbs / 10 := by omega
    have hnb : (m % 10).toNat = m.natAbs % 10 := by omega
    have hmea : (m / 10).natAbs < m.natAbs := by omega
    have t3 := True.intro
    have d3 := True.intro
    have HL2 : Hid (digs (m / 10).natAbs ++ (figC (m % 10).toNat :: l) = digs n.natAbs) := qh (by
     rw [hna, hnb, figC_dec (by omega), ← HL.out, digs_step hu]; simp)
    have HM := qh hmea
    clear t3 d3 hna hnb hu hmea
    have t4 : ¬ m % 10 < 0 := by omega
    go_wp2_with fail
    refine (spec_l01Figure (m % 10) _ (by omega) (by omega)).mono ?_
    rintro e w1 ⟨rfl, rfl⟩
    generalize hc : figC (m % 10).toNat = fc at *
    clear hc
    have cv := str_run (w := wr.alloc (.cells #[.int .u8 (fc.toNat : Int)] 5)) (A := some ⟨wr.heap.size, 0, none⟩) (n := 1) 1 (l := [fc]) (Rd.new wr 1 1 _ _ rfl)
    have HB2 := qh (HB.out.alloc HB.out.size (.cells #[.int .u8 (fc.toNat : Int)] 5))
    have HC := qh (str_cons fc l)
    go_wp2_with fail
    go_roundw
    case rel => exact ⟨m / 10, fc :: l, d1, d2, by go_num, by rw [← HC.out], HL2, HB2⟩
    case measure => exact HM.out
 ·exact absurd trivial hpp
theorem below_grow {w : World} {k : Nat} {os : Array Obj} : Below w.heap.size w (Sort.grow (w.drewN k) os) := by
 refine ⟨rfl, rfl, rfl, by simp [Sort.grow], fun j hj => ?_⟩
 simp only [Sort.grow]
 exact Array.getElem?_append_left hj
theorem impl_Decimal (n : Int) (h0 : -9223372036854775808 ≤ n) (h1 : n ≤ 9223372036854775807) (w : World) (tab : Lib.TabIs Tryz.prog w "internal/strconv.uint64pow10" .u64 Lib.pow10Tab) :
  Calls Tryz.prog 32 #[.int .i64 n] w fun e w' => e = .returned (.string ⟨(Lib.itoa n).toArray⟩) ∧ Below w.heap.size w w' := by
 have TB := qh tab
 clear tab
 go_enter Tryz.func32, Tryz.ntmps32
 go_wp2_with fail
 refine (Tryz.strconv_Itoa n h0 h1 w TB.out).mono ?_
 rintro e w1 ⟨rfl, k, os, rfl⟩
 have B1 := qh (below_grow (w := w) (k := k) (os := os))
 generalize Sort.grow (w.drewN k) os = w1 at *
 go_wp2_with fail
 go_ret
 exact ⟨rfl, B1.out⟩
def signB (k : Int) : ByteArray := if k = 3 then ⟨#[43]⟩ else if k = 4 then ⟨#[45]⟩ else if k = 5 then ⟨#[42]⟩ else if k = 6 then ⟨#[60]⟩ else if k = 7 then ⟨#[61, 61]⟩ else ⟨#[97, 110, 100]⟩
def signK (k : Int) : List UInt8 := (signB k).data.toList
theorem signK_len (k : Int) : (signK k).length ≤ 3 := by
 unfold signK signB
 repeat' split
 all_goals decide
def joinT (k : Int) (a b : List UInt8) : List UInt8 := if k = 8 then [40, 110, 111, 116, 32] ++ a ++ [41] else [40] ++ a ++ ([32] ++ signK k ++ [32]) ++ b ++ [41]
mutual
def txtT : Tm → List UInt8
 | .mk k n s kids => if k = 1 then Lib.itoa n else if k = 2 then s.data.toList else joinT k ((txtTs kids)[0]?.getD []) ((txtTs kids)[1]?.getD [])
def txtTs : List Tm → List (List UInt8)
 | [] => []
 | t :: r => txtT t :: txtTs r
end
theorem txtT_num {n : Int} {s : ByteArray} {kids : List Tm} : txtT (.mk 1 n s kids) = Lib.itoa n := by rw [txtT, if_pos rfl]
theorem txtT_var {n : Int} {s : ByteArray} {kids : List Tm} : txtT (.mk 2 n s kids) = s.data.toList := by rw [txtT, if_neg (by decide), if_pos rfl]
theorem txtT_one {n : Int} {s : ByteArray} {x : Tm} : txtT (.mk 8 n s [x]) = [40, 110, 111, 116, 32] ++ txtT x ++ [41] := by
 simp [txtT, txtTs, joinT]
theorem txtT_two {k n : Int} {s : ByteArray} {x y : Tm} (h1 : k ≠ 1) (h2 : k ≠ 2) (h8 : k ≠ 8) : txtT (.mk k n s [x, y]) = [40] ++ txtT x ++ ([32] ++ signK k ++ [32]) ++ txtT y ++ [41] := by
 rw [txtT, if_neg h1, if_neg h2, txtTs, txtTs, txtTs, joinT, if_neg h8]; rfl
theorem txt_len (r : Nat) : ∀ t, okT r t = true → (txtT t).length + 8 ≤ 30 * 2 ^ r := by
 induction r with
 | zero =>
  intro t h
  obtain ⟨k, n, s, kids⟩ := t
  by_cases h1 : k = 1
  ·subst h1
   rw [okT_num, Bool.and_eq_true, Bool.and_eq_true] at h
   rw [txtT_num]
   have hb := h.1.1
   have := Lib.itoa_length_le n (by simp [inB] at hb; omega) (by simp [inB] at hb; omega)
   omega
  by_cases h2 : k = 2
  ·subst h2
   rw [okT_var, Bool.and_eq_true, Bool.and_eq_true] at h
   rw [txtT_var]
   have := name_len h.1.2
   omega
  rw [okT_zero (by simpa using h1) (by simpa using h2)] at h
  cases h
 | succ r ih =>
  intro t h
  obtain ⟨k, n, s, kids⟩ := t
  have hp : 2 ^ (r + 1) = 2 ^ r + 2 ^ r := by rw [Nat.pow_succ]; omega
  have hpos := Nat.two_pow_pos r
  by_cases h1 : k = 1
  ·subst h1
   rw [okT_num, Bool.and_eq_true, Bool.and_eq_true] at h
   rw [txtT_num]
   have hb := h.1.1
   have := Lib.itoa_length_le n (by simp [inB] at hb; omega) (by simp [inB] at hb; omega)
   omega
  by_cases h2 : k = 2
  ·subst h2
   rw [okT_var, Bool.and_eq_true, Bool.and_eq_true] at h
   rw [txtT_var]
   have := name_len h.1.2
   omega
  obtain ⟨r', he, ⟨rfl, x, rfl, hx⟩ | ⟨hk, x, y, rfl, hx, hy⟩⟩ := okT_kids h1 h2 h
  ·have : r' = r := by omega
   subst this
   have := ih x hx
   rw [txtT_one]
   simp only [List.length_append, List.length_cons, List.length_nil]; omega
  ·have : r' = r := by omega
   subst this
   have := ih x hx
   have := ih y hy
   have := signK_len k
   rw [txtT_two h1 h2 (by omega)]
   simp only [List.length_append, List.length_cons, List.length_nil]; omega
def txtR (t : Tm) : List UInt8 := if okT 6 t = true then txtT t else []
theorem txtR_yes {t : Tm} (h : okT 6 t = true) : txtR t = txtT t := by simp [txtR, h]
theorem txtR_no {t : Tm} (h : okT 6 t = false) : txtR t = [] := by simp [txtR, h]
theorem okT_num_bd {r : Nat} {n : Int} {s : ByteArray} {kids : List Tm} (h : okT r (.mk 1 n s kids) = true) : 0 ≤ n ∧ n ≤ 1000000000 := by
 rw [okT_num, Bool.and_eq_true, Bool.and_eq_true] at h
 have hb := h.1.1
 simp [inB] at hb
 exact hb
def OutB (w0 w : World) (v : Value) (l : List UInt8) : Prop := Own w0 w 5 1 v l.length (bv l)
theorem OutB.own {w0 w : World} {v : Value} {l : List UInt8} (h : OutB w0 w v l) : Below w0.heap.size w0 w := h.2
theorem OutB.slice {w0 w : World} {v : Value} {l : List UInt8} (h : OutB w0 w v l) : ∃ A c, v = .slice A l.length c ∧ l.length ≤ c := Own.slice h
theorem OutB.below {w0 w w' : World} {v : Value} {l : List UInt8} (h : OutB w0 w v l) (hb : Below w.heap.size w w') : OutB w0 w' v l := Own.below h hb
theorem OutB.alloc {w0 w : World} {v : Value} {l : List UInt8} (h : OutB w0 w v l) (o : Obj) : OutB w0 (w.alloc o) v l := Own.alloc h o
theorem OutB.drew {w0 w : World} {v : Value} {l : List UInt8} (h : OutB w0 w v l) : OutB w0 w.drew v l := Own.drew h
theorem OutB.empty {w0 w : World} (h : Below w0.heap.size w0 w) : OutB w0 (w.alloc (.cells #[] 5)) (.slice (some ⟨w.heap.size, 0, none⟩) 0 0) [] := Own.lit h _ 1 0 #[] (by simp [maxLen]) rfl
theorem run_outB_str {w0 w : World} {v : Value} {l : List UInt8} (own : OutB w0 w v l) (ty : TypeId) (s : ByteArray) (hb : l.length + s.size ≤ 100000000000) :
  ∃ v' w', (Builtin.append_ #[22, 9] ty #[v, .string s]).run Tryz.prog w = .ok v' w' ∧ OutB w0 w' v' (l ++ s.data.toList) ∧ Grew v v' w w' := by
 obtain ⟨i, z, hi, hz, hs, hbt, hzs⟩ := u8T.info
 have hzz : z = .int .u8 0 := by
  have h0 : (Tryz.prog.info? 5).map (fun i => i.zero) = some (some (.int .u8 0)) := by kernel_rfl
  rw [hi] at h0
  simpa [hz] using h0
 subst hzz
 obtain ⟨v', w', hr, h2, h3, h4⟩ := Lib.run_append_own_string (P := Tryz.prog) w w0.heap.size 22 9 ty 5 i u8T.under Tryz.underlying9 hi hz hs hbt v l.length (bv l) own.1 s (by simp only [maxLen]; omega) (by omega) own.2.size
 refine ⟨v', w', hr, ?_, ⟨h3.os, h3.tape, h3.output, h3.size, fun k hk hne => h3.block k hk (fun e => hne e.symm)⟩, ?_⟩
 ·have := Own.grown own h2 h3
  unfold OutB
  rw [List.length_append, bv_append, size_list]
  exact this
 ·rcases own.1.2 with ⟨rfl, h0⟩ | ⟨g, cap, cur, rfl, _, hg, hnc, hcm, hcs, htake⟩
  ·by_cases hm : s.size = 0
   ·have := h4.2 ⟨rfl, hm⟩
    subst this
    exact .inl rfl
   ·have hr2 := run_append_nil_string (P := Tryz.prog) w 22 9 ty 5 i (.int .u8 0) u8T.under Tryz.underlying9 hi hz s (by omega) (by omega) (by rw [hbt]; omega)
    have := hr.symm.trans hr2
    injection this with e1 _
    subst e1
    exact .inr ⟨_, rfl, Nat.le_refl _⟩
  ·have hcs' : cur.size = cap := by simpa using hcs
   by_cases hroom : l.length + s.size ≤ cap
   ·have hr2 := Lib.run_append_room_string (P := Tryz.prog) w 22 9 ty 5 i u8T.under Tryz.underlying9 hi hs g l.length cap cur hg s hroom (by omega)
    have := hr.symm.trans hr2
    injection this with e1 _
    subst e1
    exact .inl rfl
   ·have holds : ∀ j u, (bv l)[j]? = some u → w.cell? ((⟨g, 0, none⟩ : Addr).add j) = some u := own.1.cells (g := g) rfl
    have hr2 := Lib.run_append_grow_string (P := Tryz.prog) w 22 9 ty 5 i (.int .u8 0) u8T.under Tryz.underlying9 hi hz ⟨g, 0, none⟩ l.length cap (bv l) (by rw [hs, bv_length]; omega) holds s (by omega) (by omega) (by rw [hbt]; exact growslice_fits (by omega) (by omega))
    have := hr.symm.trans hr2
    injection this with e1 _
    subst e1
    exact .inr ⟨_, rfl, Nat.le_refl _⟩
theorem run_outB_some {w0 w : World} {v : Value} {l : List UInt8} (own : OutB w0 w v l) (ty : TypeId) (A : Option Addr) (m c : Nat) (news : List UInt8) (rd : Rd w 1 A m (bv news)) (hb : l.length + m ≤ 100000000000) :
  ∃ v' w', (Builtin.append_ #[22, 22] ty #[v, .slice A m c]).run Tryz.prog w = .ok v' w' ∧ OutB w0 w' v' (l ++ news) ∧ Grew v v' w w' := by
 have hm : news.length = m := by have := rd.1; rw [bv_length] at this; omega
 obtain ⟨v', w', hr, h2, h3⟩ := run_appG (P := Tryz.prog) 22 ty 5 1 1 u8T v l.length (bv l) own A m c (bv news) rd (bv_one _) (by simp only [maxLen]; omega) (by omega)
 refine ⟨v', w', hr, ?_, h3⟩
 unfold OutB
 rw [List.length_append, bv_append, hm]
 exact h2
def Lies (w : World) (u : Value) (g : Nat) (c : UInt8) : Prop := w.heap[g]? = some (.cells #[.int .u8 (c.toNat : Int)] 5 (0, 0)) ∧ u.ownBlock ≠ some g
theorem Lies.new {w0 w : World} {u : Value} {l : List UInt8} (o : OutB w0 w u l) (c : UInt8) : Lies (w.alloc (.cells #[.int .u8 (c.toNat : Int)] 5)) u w.heap.size c := by
 refine ⟨heap_alloc_new _ _, fun e => ?_⟩
 have := (o.1.lt _ e).2
 omega
theorem Lies.grew {w w' : World} {u u' : Value} {g : Nat} {c : UInt8} (h : Lies w u g c) (k : Grew u u' w w') : Lies w' u' g c := by
 have hlt := lt_of_block h.1
 refine ⟨(k.keep.block g hlt h.2).trans h.1, fun e => ?_⟩
 rcases k.lies with h1 | ⟨b, h1, h2⟩
 ·exact h.2 (h1.symm.trans e)
 ·rw [h1] at e; injection e with e; omega
theorem Lies.below {w w' : World} {u : Value} {g : Nat} {c : UInt8} (h : Lies w u g c) (k : Below w.heap.size w w') : Lies w' u g c := h.grew (Grew.of_below k)
theorem Lies.rd {w : World} {u : Value} {g : Nat} {c : UInt8} (h : Lies w u g c) : Rd w 1 (some ⟨g, 0, none⟩) 1 (bv [c]) :=
 ⟨rfl, fun _ => ⟨g, 0, rfl, fun j x hx => by
  have hh := h.1
  rcases j with _ | j
  ·simp only [bv, List.map_cons, List.map_nil, List.getElem?_cons_zero, Option.some.injEq] at hx
   subst hx
   simp [World.cell?, hh]
  ·simp [bv] at hx⟩⟩
theorem Grew.link {v u u' : Value} {w w1 w2 w3 : World} (h : Grew v u w w1) (b : Below w1.heap.size w1 w2) (k : Grew u u' w2 w3) : Grew v u' w w3 := h.trans ((Grew.of_below b).trans k)
theorem Grew.keepB {w0 w w' : World} {v v' : Value} {l : List UInt8} (h : Grew v v' w w') (own : OutB w0 w v l) : KeepT 5 w w' := Grew.keepT h own
section
variable {w0 w : World} {v : Value} {l : List UInt8} {o : Oper} {a : Act} {Q : Exit → Act → World → Prop}
theorem wp_outB_str {K : Act → World → Prop} (sl x : Operand) (ho : o.op = .call { callee := .builtin .append, args := #[sl, x], argTypes := #[22, 9] }) (hs : a.eval sl = v) (own : OutB w0 w v l) (s : ByteArray) (hx : a.eval x = .string s) (hb : l.length + s.size ≤ 100000000000)
  (h : ∀ v' w', OutB w0 w' v' (l ++ s.data.toList) → Grew v v' w w' → K (a.put o.dst v') w') : o.wp Tryz.prog a w K Q := by
 obtain ⟨v', w', hr, h2, h3⟩ := run_outB_str own o.type s hb
 unfold Oper.wp execOp
 simp only [ho, resolve, invoke, builtin, Sem.run_bind, Sem.run_pure, Result.andThen_ok, List.map_toArray, List.map_cons, List.map_nil, hs, hx, hr]
 exact h v' w' h2 h3
theorem wp_outB_some {K : Act → World → Prop} (sl x : Operand) (ho : o.op = .call { callee := .builtin .append, args := #[sl, x], argTypes := #[22, 22] }) (hs : a.eval sl = v) (own : OutB w0 w v l) (A : Option Addr) (m c : Nat) (news : List UInt8) (hx : a.eval x = .slice A m c) (rd : Rd w 1 A m (bv news)) (hb : l.length + m ≤ 100000000000)
  (h : ∀ v' w', OutB w0 w' v' (l ++ news) → Grew v v' w w' → K (a.put o.dst v') w') : o.wp Tryz.prog a w K Q := by
 obtain ⟨v', w', hr, h2, h3⟩ := run_outB_some own o.type A m c news rd hb
 unfold Oper.wp execOp
 simp only [ho, resolve, invoke, builtin, Sem.run_bind, Sem.run_pure, Result.andThen_ok, List.map_toArray, List.map_cons, List.map_nil, hs, hx, hr]
 exact h v' w' h2 h3
theorem wpList_outB_str {ops : Array Oper} {rest : List Oper} (hgd : o.guard = none) (sl x : Operand) (ho : o.op = .call { callee := .builtin .append, args := #[sl, x], argTypes := #[22, 9] }) (hs : a.eval sl = v) (own : OutB w0 w v l) (s : ByteArray) (hx : a.eval x = .string s) (hb : l.length + s.size ≤ 100000000000)
  (h : ∀ v' w', OutB w0 w' v' (l ++ s.data.toList) → Grew v v' w w' → wpList Tryz.prog ops Q rest (a.put o.dst v') w') : wpList Tryz.prog ops Q (o :: rest) a w :=
 wpList_plain hgd fun _ hK => wp_outB_str sl x ho hs own s hx hb fun v' w' h2 h3 => hK _ _ (h v' w' h2 h3)
theorem wpList_outB_some {ops : Array Oper} {rest : List Oper} (hgd : o.guard = none) (sl x : Operand) (ho : o.op = .call { callee := .builtin .append, args := #[sl, x], argTypes := #[22, 22] }) (hs : a.eval sl = v) (own : OutB w0 w v l) (A : Option Addr) (m c : Nat) (news : List UInt8) (hx : a.eval x = .slice A m c) (rd : Rd w 1 A m (bv news)) (hb : l.length + m ≤ 100000000000)
  (h : ∀ v' w', OutB w0 w' v' (l ++ news) → Grew v v' w w' → wpList Tryz.prog ops Q rest (a.put o.dst v') w') : wpList Tryz.prog ops Q (o :: rest) a w :=
 wpList_plain hgd fun _ hK => wp_outB_some sl x ho hs own A m c news hx rd hb fun v' w' h2 h3 => hK _ _ (h v' w' h2 h3)
theorem step_outB_str {ops : Array Oper} {K : Act → World → Prop} {E : Prop} (hgd : o.guard = none) (sl x : Operand) (ho : o.op = .call { callee := .builtin .append, args := #[sl, x], argTypes := #[22, 9] }) (hs : a.eval sl = v) (own : OutB w0 w v l) (s : ByteArray) (hx : a.eval x = .string s) (hb : l.length + s.size ≤ 100000000000)
  (h : ∀ v' w', OutB w0 w' v' (l ++ s.data.toList) → Grew v v' w w' → K (a.put o.dst v') w') : if Region.wanted o (yielded ops a.tmps) = true then Oper.wp Tryz.prog o a w K Q else E := by
 have hw : Region.wanted o (yielded ops a.tmps) = true := by simp [Region.wanted, hgd]
 rw [if_pos hw]
 exact wp_outB_str sl x ho hs own s hx hb h
theorem step_outB_some {ops : Array Oper} {K : Act → World → Prop} {E : Prop} (hgd : o.guard = none) (sl x : Operand) (ho : o.op = .call { callee := .builtin .append, args := #[sl, x], argTypes := #[22, 22] }) (hs : a.eval sl = v) (own : OutB w0 w v l) (A : Option Addr) (m c : Nat) (news : List UInt8) (hx : a.eval x = .slice A m c) (rd : Rd w 1 A m (bv news)) (hb : l.length + m ≤ 100000000000)
  (h : ∀ v' w', OutB w0 w' v' (l ++ news) → Grew v v' w w' → K (a.put o.dst v') w') : if Region.wanted o (yielded ops a.tmps) = true then Oper.wp Tryz.prog o a w K Q else E := by
 have hw : Region.wanted o (yielded ops a.tmps) = true := by simp [Region.wanted, hgd]
 rw [if_pos hw]
 exact wp_outB_some sl x ho hs own A m c news hx rd hb h
end
end Go.Proofs.YtnmblfonmfjoeaaGreatDoor
