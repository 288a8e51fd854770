/- The program's CodeOk, ProcOf and EndOf. -/
import Derived.Test.YtefcdpkficojgaaDoorCdInsI
import Derived.Test.YtefcdpkficojgaaDoorCdOkS
namespace Go.Proofs.YtefcdpkficojgaaDoor
open Go.RowKit
set_option linter.unusedVariables false

/-- all instructions of a procedure are right -/
def ProcFine (p : Cd) (i : Nat) : Prop := ∀ j (hj : j < p.ins.length), p.entry.getD i 0 ≤ (j : Int) → (j : Int) < finE p.entry p.ins.length i → insB p p.ins[j] (p.entry.getD i 0) (finE p.entry p.ins.length i - 1) = true
theorem head_fin {p : Cd} (h : HeadOk p) {i : Nat} (hi : i < p.entry.length) : ∃ bn fn : Nat, p.entry[i] = (bn : Int) ∧ finE p.entry p.ins.length i = (fn : Int) ∧ bn < fn ∧ fn ≤ p.ins.length := by
  have h1 := h.ent.rise i hi
  have h2 := h.ent.top i hi
  have h3 := head_nn h i hi
  rw [opsC_len] at h1 h2
  rw [getD_get hi] at h1 h3
  exact ⟨p.entry[i].toNat, (finE p.entry p.ins.length i).toNat, by omega, by omega, by omega, by omega⟩
theorem fine_mk {p : Cd} {i bn fn : Nat} (hi : i < p.entry.length) (hb : p.entry[i] = (bn : Int)) (hf : finE p.entry p.ins.length i = (fn : Int)) (h : ∀ j, j < fn - bn → (hj : bn + j < p.ins.length) → insB p p.ins[bn + j] (bn : Int) ((fn : Int) - 1) = true) : ProcFine p i := by
  intro j hj h1 h2
  rw [getD_get hi, hb] at h1 ⊢
  rw [hf] at h2 ⊢
  have := h (j - bn) (by omega) (by omega)
  have e : bn + (j - bn) = j := by omega
  simp only [e] at this
  exact this
theorem fine_no {p : Cd} {i bn fn j : Nat} (hi : i < p.entry.length) (hb : p.entry[i] = (bn : Int)) (hf : finE p.entry p.ins.length i = (fn : Int)) (hj : bn + j < p.ins.length) (hj2 : j < fn - bn) (h : insB p p.ins[bn + j] (bn : Int) ((fn : Int) - 1) = false) : ¬ CodOk p := fun hc => by
  have := codOk_in hc hi hj (by rw [getD_get hi, hb]; omega) (by rw [hf]; omega)
  rw [getD_get hi, hb, hf, h] at this
  cases this
set_option maxHeartbeats 3200000 in
set_option maxRecDepth 100000 in
theorem impl_CodeOk (p : Cd) (x : V5) (w : World) (hp : CdIs w x p) (htot : totCd p ≤ 1048576) :
    Calls Tryd.prog 95 #[x.val p] w fun e w' => e = .returned (.bool (decP (CodOk p))) ∧ Below w.heap.size w w' := by
  obtain ⟨gA, gc, lA, lc, pA, pc, eA, ec, iA, ic⟩ := x
  have HP := Lib.hid hp
  have hgl := hp.g1
  have hgc := hp.g2
  have hll := hp.l1
  have hlc := hp.l2
  have hpl := hp.p1
  have hpc := hp.p2
  have hel := hp.e1
  have hec := hp.e2
  have hil := hp.i1
  have hic := hp.i2
  simp only at hgl hgc hll hlc hpl hpc hel hec hil hic
  clear hp
  unfold V5.val
  simp only
  unfold maxLen at hgc hlc hpc hec hic
  cases hn : namB p with
  | false =>
    have F : Hid (¬ CodOk p) := Lib.hid (fun h => by have := h.head.nam; rw [hn] at this; cases this)
    have N := Lib.hid hn
    clear hn
    go_enter Tryd.func95, Tryd.ntmps95
    go_wp2_with fail
    refine (impl_namesRight p ⟨gA, gc, lA, lc, pA, pc, eA, ec, iA, ic⟩ _ (HP.out.belowA (by repeat' (first | exact Below.refl _ _ | exact Nat.le_refl _ | (refine Below.alloc ?_ ?_ _) | (refine Below.setCell ?_ ?_ _) | (refine Below.drew ?_) | (refine below_drewN ?_ _) | assumption | (simp; done) | (simp; omega))))).mono ?_
    rintro e w1 ⟨rfl, b1⟩
    have BB := Lib.hid (Below.trans (by repeat' (first | exact Below.refl _ _ | exact Nat.le_refl _ | (refine Below.alloc ?_ ?_ _) | (refine Below.setCell ?_ ?_ _) | (refine Below.drew ?_) | (refine below_drewN ?_ _) | assumption | (simp; done) | (simp; omega))) (b1.mono (by simp)) : Below w.heap.size w w1)
    rw [N.out]
    clear b1
    go_wp2_with fail
    go_ret
    exact ⟨ret_bool (decP_no F.out).symm, BB.out⟩
  | true =>
  have N1 := Lib.hid hn
  clear hn
  by_cases hh : HeadOk p
  case neg =>
    have F : Hid (¬ CodOk p) := Lib.hid (fun h => hh h.head)
    have N := Lib.hid (decP_no hh)
    clear hh
    go_enter Tryd.func95, Tryd.ntmps95
    go_wp2_with fail
    refine (impl_namesRight p ⟨gA, gc, lA, lc, pA, pc, eA, ec, iA, ic⟩ _ (HP.out.belowA (by repeat' (first | exact Below.refl _ _ | exact Nat.le_refl _ | (refine Below.alloc ?_ ?_ _) | (refine Below.setCell ?_ ?_ _) | (refine Below.drew ?_) | (refine below_drewN ?_ _) | assumption | (simp; done) | (simp; omega))))).mono ?_
    rintro e w1 ⟨rfl, b1⟩
    have BB := Lib.hid (Below.trans (by repeat' (first | exact Below.refl _ _ | exact Nat.le_refl _ | (refine Below.alloc ?_ ?_ _) | (refine Below.setCell ?_ ?_ _) | (refine Below.drew ?_) | (refine below_drewN ?_ _) | assumption | (simp; done) | (simp; omega))) (b1.mono (by simp)) : Below w.heap.size w w1)
    have BX := Lib.hid ((Box5.new w ⟨gA, gc, lA, lc, pA, pc, eA, ec, iA, ic⟩ p 59).below b1)
    rw [N1.out]
    clear b1
    obtain ⟨p0, p1, p2, p3, p4⟩ := BX.out
    simp only at p0 p1 p2 p3 p4
    go_wp2_with fail
    refine (impl_entriesRight p ⟨gA, gc, lA, lc, pA, pc, eA, ec, iA, ic⟩ _ (HP.out.belowA BB.out) N1.out).mono ?_
    rintro e w2 ⟨rfl, b2⟩
    have B2 := Lib.hid (below_then BB.out b2)
    rw [N.out]
    clear b2 p0 p1 p2 p3 p4
    go_wp2_with fail
    go_ret
    exact ⟨ret_bool (decP_no F.out).symm, B2.out⟩
  have HH := Lib.hid hh
  have N := Lib.hid (decP_yes hh)
  have hl0 : 0 < p.entry.length := by rw [hh.same]; exact namB_pos hh.nam
  have hn0 : 0 < p.ins.length := by obtain ⟨bn, fn, _, _, h1, h2⟩ := head_fin hh hl0; omega
  obtain ⟨eb, eoff, rfl, _⟩ := rd_int HP.out.e3 hl0
  obtain ⟨ib, ioff, _, e1, _⟩ := rd_ins HP.out.i3 hn0
  simp only at e1
  subst e1
  clear hh
  go_enter Tryd.func95, Tryd.ntmps95
  go_wp2_with fail
  refine (impl_namesRight p ⟨gA, gc, lA, lc, pA, pc, some ⟨eb, eoff, none⟩, ec, some ⟨ib, ioff, none⟩, ic⟩ _ (HP.out.belowA (by repeat' (first | exact Below.refl _ _ | exact Nat.le_refl _ | (refine Below.alloc ?_ ?_ _) | (refine Below.setCell ?_ ?_ _) | (refine Below.drew ?_) | (refine below_drewN ?_ _) | assumption | (simp; done) | (simp; omega))))).mono ?_
  rintro e w1 ⟨rfl, b1⟩
  have BB := Lib.hid (Below.trans (by repeat' (first | exact Below.refl _ _ | exact Nat.le_refl _ | (refine Below.alloc ?_ ?_ _) | (refine Below.setCell ?_ ?_ _) | (refine Below.drew ?_) | (refine below_drewN ?_ _) | assumption | (simp; done) | (simp; omega))) (b1.mono (by simp)) : Below w.heap.size w w1)
  have BX := Lib.hid ((Box5.new w ⟨gA, gc, lA, lc, pA, pc, some ⟨eb, eoff, none⟩, ec, some ⟨ib, ioff, none⟩, ic⟩ p 59).below b1)
  rw [N1.out]
  clear b1
  obtain ⟨p0, p1, p2, p3, p4⟩ := BX.out
  simp only at p0 p1 p2 p3 p4
  go_wp2_with fail
  refine (impl_entriesRight p ⟨gA, gc, lA, lc, pA, pc, some ⟨eb, eoff, none⟩, ec, some ⟨ib, ioff, none⟩, ic⟩ _ (HP.out.belowA BB.out) N1.out).mono ?_
  rintro e w2 ⟨rfl, b2⟩
  have B2 := Lib.hid (And.intro (below_then BB.out b2) (BX.out.below b2))
  rw [N.out]
  clear b2 p0 p1 p2 p3 p4
  obtain ⟨p0, p1, p2, p3, p4⟩ := B2.out.2
  simp only at p0 p1 p2 p3 p4
  go_wp2_with fail
  clear p0 p1 p2 p3 p4
  go_loopw [19] (fun z wr => ∃ k : Nat, k ≤ p.entry.length ∧ z = .int .i64 k ∧ Hid (Below w.heap.size w wr ∧ Box5 wr w.heap.size ⟨gA, gc, lA, lc, pA, pc, some ⟨eb, eoff, none⟩, ec, some ⟨ib, ioff, none⟩, ic⟩ p) ∧ Hid (∀ i, i < k → ProcFine p i)) (fun z _ => p.entry.length - (intOf z).toNat)
  case atStart => exact ⟨0, Nat.zero_le _, rfl, B2, Lib.hid (fun i h => by omega)⟩
  case round =>
    obtain ⟨k, hk, rfl, HB, HT⟩ := hrel
    obtain ⟨p0, p1, p2, p3, p4⟩ := HB.out.2
    simp only at p0 p1 p2 p3 p4
    by_cases hlt : k < p.entry.length
    · obtain ⟨bn, fn, hbn, hfn, hbf, hfl⟩ := head_fin HH.out hlt
      obtain ⟨b', off', e1, hcell⟩ := rd_int (HP.out.belowA HB.out.1).e3 hlt
      simp only at e1
      injection e1 with e1
      injection e1 with e2 e3
      subst e2 e3
      rw [hbn] at hcell
      have BF := Lib.hid (And.intro hbn hfn)
      have h0k : (0 : Int) ≤ (k : Int) := by omega
      have h1k : (k : Int) < (p.entry.length : Int) := by omega
      have h2k : (0 : Int) ≤ (bn : Int) := by omega
      have h3k : (bn : Int) ≤ (fn : Int) := by omega
      have h4k : (fn : Int) ≤ (ic : Int) := by omega
      have h5k : bn < ic := by omega
      clear hbn hfn
      rename World => wq
      go_wp2_with fail
      refine (impl_endOfProc p ⟨gA, gc, lA, lc, pA, pc, some ⟨eb, eoff, none⟩, ec, some ⟨ib, ioff, none⟩, ic⟩ _ (HP.out.belowA HB.out.1) k hlt).mono ?_
      rintro e w3 ⟨rfl, b3⟩
      have B3 := Lib.hid (And.intro (below_then HB.out.1 b3) (HB.out.2.below b3))
      rw [BF.out.2]
      clear b3 p0 p1 p2 p3 p4 hcell
      obtain ⟨p0, p1, p2, p3, p4⟩ := B3.out.2
      simp only at p0 p1 p2 p3 p4
      go_wp2_with fail
      clear p0 p1 p2 p3 p4
      go_loopw [33] (fun z wr => ∃ m : Nat, m ≤ fn - bn ∧ z = .int .i64 m ∧ Hid (Below w.heap.size w wr ∧ Box5 wr w.heap.size ⟨gA, gc, lA, lc, pA, pc, some ⟨eb, eoff, none⟩, ec, some ⟨ib, ioff, none⟩, ic⟩ p) ∧ Hid (∀ j, j < m → (hj : bn + j < p.ins.length) → insB p p.ins[bn + j] (bn : Int) ((fn : Int) - 1) = true)) (fun z _ => fn - bn - (intOf z).toNat)
      case atStart => exact ⟨0, Nat.zero_le _, rfl, B3, Lib.hid (fun j h => by omega)⟩
      case round =>
        obtain ⟨m, hm, rfl, HB, HM⟩ := hrel
        obtain ⟨p0, p1, p2, p3, p4⟩ := HB.out.2
        simp only at p0 p1 p2 p3 p4
        by_cases hltm : m < fn - bn
        · have hj : bn + m < p.ins.length := by omega
          obtain ⟨ib', ioff', y, e1, _, ⟨d0, d1, d2, d3, d4, d5, d6⟩, hI⟩ := rd_ins (HP.out.belowA HB.out.1).i3 hj
          simp only at e1
          injection e1 with e1
          injection e1 with e2 e3
          subst e2 e3
          have ea : ioff + (bn + m) * 7 = ioff + bn * 7 + m * 7 := by omega
          rw [ea] at d0 d1 d2 d3 d4 d5 d6
          have HI := Lib.hid hI
          have htt := ins_tot hj htot
          have h0m : (0 : Int) ≤ (m : Int) := by omega
          have hwb := cell_lt p0
          simp only at hwb
          have h1m : (m : Int) < (fn : Int) - (bn : Int) := by omega
          clear hI ea
          cases hq : insB p p.ins[bn + m] (bn : Int) ((fn : Int) - 1) with
          | false =>
            have F : Hid (¬ CodOk p) := Lib.hid (fine_no hlt BF.out.1 BF.out.2 hj hltm hq)
            have HQ := Lib.hid hq
            clear hq
            go_wp2_with fail
            refine (impl_insRight p ⟨gA, gc, lA, lc, pA, pc, some ⟨eb, eoff, none⟩, ec, some ⟨ib, ioff, none⟩, ic⟩ p.ins[bn + m] y (bn : Int) (fn : Int) _ (HP.out.belowA (Below.alloc HB.out.1 HB.out.1.size _)) (HI.out.belowA (Below.alloc (Below.refl _ _) (Nat.le_refl _) _)) htt).mono ?_
            rintro e w9 ⟨rfl, b9⟩
            have B9 := Lib.hid (below_then (Below.alloc HB.out.1 HB.out.1.size _) b9)
            rw [HQ.out]
            clear b9 p0 p1 p2 p3 p4 d0 d1 d2 d3 d4 d5 d6
            go_wp2_with fail
            go_ret
            exact ⟨ret_bool (decP_no F.out).symm, B9.out⟩
          | true =>
            have T : Hid (∀ j, j < m + 1 → (hj : bn + j < p.ins.length) → insB p p.ins[bn + j] (bn : Int) ((fn : Int) - 1) = true) := Lib.hid (fun j h hj => by
              by_cases e : j = m
              · subst e; exact hq
              · exact HM.out j (by omega) hj)
            have HQ := Lib.hid hq
            clear hq
            go_wp2_with fail
            refine (impl_insRight p ⟨gA, gc, lA, lc, pA, pc, some ⟨eb, eoff, none⟩, ec, some ⟨ib, ioff, none⟩, ic⟩ p.ins[bn + m] y (bn : Int) (fn : Int) _ (HP.out.belowA (Below.alloc HB.out.1 HB.out.1.size _)) (HI.out.belowA (Below.alloc (Below.refl _ _) (Nat.le_refl _) _)) htt).mono ?_
            rintro e w9 ⟨rfl, b9⟩
            have B9 := Lib.hid (And.intro (below_then (Below.alloc HB.out.1 HB.out.1.size _) b9) ((HB.out.2.below (Below.alloc (Below.refl _ _) (Nat.le_refl _) _)).below b9))
            rw [HQ.out]
            clear b9 p0 p1 p2 p3 p4 d0 d1 d2 d3 d4 d5 d6
            go_wp2_with fail
            go_roundw
            case rel => exact ⟨m + 1, by omega, by go_num, B9, T⟩
            case measure => simp [intOf]; omega
        · have T : Hid (∀ i, i < k + 1 → ProcFine p i) := Lib.hid (fun i hi => by
            by_cases e : i = k
            · subst e; exact fine_mk hlt BF.out.1 BF.out.2 (fun j h hj => HM.out j (by omega) hj)
            · exact HT.out i (by omega))
          have h1m : ¬ (m : Int) < (fn : Int) - (bn : Int) := by omega
          clear p0 p1 p2 p3 p4
          go_wp2_with fail
          go_roundw
          case rel => exact ⟨k + 1, by omega, by go_num, HB, T⟩
          case measure => simp [intOf]; omega
    · have T : Hid (CodOk p) := Lib.hid (codOk_of HH.out (fun i hi => HT.out i (by omega)))
      go_wp2_with fail
      go_ret
      exact ⟨ret_bool (decP_yes T.out).symm, HB.out.1⟩
end Go.Proofs.YtefcdpkficojgaaDoor
