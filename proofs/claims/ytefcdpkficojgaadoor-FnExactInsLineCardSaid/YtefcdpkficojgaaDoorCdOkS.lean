/- The reference's CodeOk, ProcOf and EndOf. -/
import Derived.Test.YtefcdpkficojgaaDoorCdInsS
namespace Go.Proofs.YtefcdpkficojgaaDoor
open Go.RowKit
set_option linter.unusedVariables false

set_option maxHeartbeats 1600000 in
theorem spec_CodeOk (p : Cd) (x : V5) (w : World) (hp : CdIs w x p) (htot : totCd p ≤ 1048576) :
    Calls Tryd.prog 88 #[x.val p] w fun e w' => e = .returned (.bool (decP (CodOk p))) ∧ Below w.heap.size w w' := by
  obtain ⟨gA, gc, lA, lc, pA, pc, eA, ec, iA, ic⟩ := x
  have HP := Lib.hid hp
  have hgl := hp.g1
  have hgc := hp.g2
  have hll := hp.l1
  have hlc := hp.l2
  have hpl := hp.p1
  have hpc := hp.p2
  have hel := hp.e1
  have hec := hp.e2
  have hil := hp.i1
  have hic := hp.i2
  simp only at hgl hgc hll hlc hpl hpc hel hec hil hic
  clear hp
  unfold V5.val
  simp only
  unfold maxLen at hgc hlc hpc hec hic
  by_cases hh : HeadOk p
  case neg =>
    have F : Hid (¬ CodOk p) := Lib.hid (fun h => hh h.head)
    have N := Lib.hid (decP_no hh)
    clear hh
    go_enter Tryd.func88, Tryd.ntmps88
    go_wp2_with fail
    refine (spec_l08Heads p ⟨gA, gc, lA, lc, pA, pc, eA, ec, iA, ic⟩ _ (HP.out.belowA (by repeat' (first | exact Below.refl _ _ | exact Nat.le_refl _ | (refine Below.alloc ?_ ?_ _) | (refine Below.setCell ?_ ?_ _) | (refine Below.drew ?_) | (refine below_drewN ?_ _) | assumption | (simp; done) | (simp; omega))))).mono ?_
    rintro e w1 ⟨rfl, b1⟩
    have BB := Lib.hid (Below.trans (by repeat' (first | exact Below.refl _ _ | exact Nat.le_refl _ | (refine Below.alloc ?_ ?_ _) | (refine Below.setCell ?_ ?_ _) | (refine Below.drew ?_) | (refine below_drewN ?_ _) | assumption | (simp; done) | (simp; omega))) (b1.mono (by simp)) : Below w.heap.size w w1)
    rw [N.out]
    clear b1
    go_wp2_with fail
    go_ret
    exact ⟨ret_bool (decP_no F.out).symm, BB.out⟩
  have HH := Lib.hid hh
  have N := Lib.hid (decP_yes hh)
  clear hh
  go_enter Tryd.func88, Tryd.ntmps88
  go_wp2_with fail
  refine (spec_l08Heads p ⟨gA, gc, lA, lc, pA, pc, eA, ec, iA, ic⟩ _ (HP.out.belowA (by repeat' (first | exact Below.refl _ _ | exact Nat.le_refl _ | (refine Below.alloc ?_ ?_ _) | (refine Below.setCell ?_ ?_ _) | (refine Below.drew ?_) | (refine below_drewN ?_ _) | assumption | (simp; done) | (simp; omega))))).mono ?_
  rintro e w1 ⟨rfl, b1⟩
  have BB := Lib.hid (Below.trans (by repeat' (first | exact Below.refl _ _ | exact Nat.le_refl _ | (refine Below.alloc ?_ ?_ _) | (refine Below.setCell ?_ ?_ _) | (refine Below.drew ?_) | (refine below_drewN ?_ _) | assumption | (simp; done) | (simp; omega))) (b1.mono (by simp)) : Below w.heap.size w w1)
  have BX := Lib.hid ((Box5.new w ⟨gA, gc, lA, lc, pA, pc, eA, ec, iA, ic⟩ p 59).below b1)
  rw [N.out]
  clear b1
  obtain ⟨p0, p1, p2, p3, p4⟩ := BX.out
  simp only at p0 p1 p2 p3 p4
  go_wp2_with fail
  clear p0 p1 p2 p3 p4
  go_loopw [3] (fun z wr => ∃ k : Nat, k ≤ p.ins.length ∧ z = .int .i64 k ∧ Hid (Below w.heap.size w wr ∧ Box5 wr w.heap.size ⟨gA, gc, lA, lc, pA, pc, eA, ec, iA, ic⟩ p) ∧ Hid (∀ j (h : j < p.ins.length), j < k → insB p p.ins[j] (bE p j) (lE p j) = true)) (fun z _ => p.ins.length - (intOf z).toNat)
  case atStart => exact ⟨0, Nat.zero_le _, rfl, Lib.hid ⟨BB.out, BX.out⟩, Lib.hid (fun j h h2 => by omega)⟩
  case round =>
    obtain ⟨k, hk, rfl, HB, HT⟩ := hrel
    obtain ⟨p0, p1, p2, p3, p4⟩ := HB.out.2
    simp only at p0 p1 p2 p3 p4
    by_cases hlt : k < p.ins.length
    · cases hq : insB p p.ins[k] (bE p k) (lE p k) with
      | false =>
        have F : Hid (¬ CodOk p) := Lib.hid (fun h => by rw [h.ins k hlt] at hq; cases hq)
        have HQ := Lib.hid hq
        clear hq
        go_wp2_with fail
        refine (spec_l08Ins p ⟨gA, gc, lA, lc, pA, pc, eA, ec, iA, ic⟩ _ (HP.out.belowA HB.out.1) k hlt htot HH.out).mono ?_
        rintro e w9 ⟨rfl, b1⟩
        have B9 := Lib.hid (below_then HB.out.1 b1)
        rw [HQ.out]
        clear b1 p0 p1 p2 p3 p4
        go_wp2_with fail
        go_ret
        exact ⟨ret_bool (decP_no F.out).symm, B9.out⟩
      | true =>
        have T : Hid (∀ j (h : j < p.ins.length), j < k + 1 → insB p p.ins[j] (bE p j) (lE p j) = true) := Lib.hid (fun j h h2 => by
          by_cases e : j = k
          · subst e; exact hq
          · exact HT.out j h (by omega))
        have HQ := Lib.hid hq
        clear hq
        go_wp2_with fail
        refine (spec_l08Ins p ⟨gA, gc, lA, lc, pA, pc, eA, ec, iA, ic⟩ _ (HP.out.belowA HB.out.1) k hlt htot HH.out).mono ?_
        rintro e w9 ⟨rfl, b1⟩
        have B9 := Lib.hid (And.intro (below_then HB.out.1 b1) (HB.out.2.below b1))
        rw [HQ.out]
        clear b1 p0 p1 p2 p3 p4
        go_wp2_with fail
        go_roundw
        case rel => exact ⟨k + 1, by omega, by go_num, B9, T⟩
        case measure => simp [intOf]; omega
    · have T : Hid (CodOk p) := Lib.hid ⟨HH.out, fun j h => HT.out j h (by omega)⟩
      go_wp2_with fail
      go_ret
      exact ⟨ret_bool (decP_yes T.out).symm, HB.out.1⟩
/-- the procedure of a place of a right code -/
noncomputable def procR (p : Cd) (a : Int) : Int := if (decP (CodOk p) && inB a 0 ((p.ins.length : Int) - 1)) = true then procE p.entry a p.entry.length else -1
theorem procR_no1 {p : Cd} {a : Int} (h : decP (CodOk p) = false) : procR p a = -1 := by unfold procR; rw [h]; rfl
theorem procR_no2 {p : Cd} {a : Int} (h : inB a 0 ((p.ins.length : Int) - 1) = false) : procR p a = -1 := by unfold procR; rw [h, Bool.and_false]; rfl
theorem procR_yes {p : Cd} {a : Int} (h : decP (CodOk p) = true) (h2 : inB a 0 ((p.ins.length : Int) - 1) = true) : procR p a = procE p.entry a p.entry.length := by unfold procR; rw [h, h2]; rfl
/-- the end of a procedure of a right code -/
noncomputable def endR (p : Cd) (a : Int) : Int := if (decP (CodOk p) && inB a 0 ((p.procs.length : Int) - 1)) = true then endE p.entry p.ins.length a else -1
theorem endR_no1 {p : Cd} {a : Int} (h : decP (CodOk p) = false) : endR p a = -1 := by unfold endR; rw [h]; rfl
theorem endR_no2 {p : Cd} {a : Int} (h : inB a 0 ((p.procs.length : Int) - 1) = false) : endR p a = -1 := by unfold endR; rw [h, Bool.and_false]; rfl
theorem endR_yes {p : Cd} {a : Int} (h : decP (CodOk p) = true) (h2 : inB a 0 ((p.procs.length : Int) - 1) = true) : endR p a = endE p.entry p.ins.length a := by unfold endR; rw [h, h2]; rfl
theorem inB_dest {a b c : Int} (h : inB a b c = true) : b ≤ a ∧ a ≤ c := by
  unfold inB at h
  simp only [Bool.and_eq_true, decide_eq_true_eq] at h
  exact h
end Go.Proofs.YtefcdpkficojgaaDoor
