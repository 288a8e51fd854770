/- Lemmas for the row. -/
import Derived.Test.YtnmblfonmfjoeaaGreatDoorKc23
namespace Go.Proofs.YtnmblfonmfjoeaaGreatDoor
open Go.RowKit
set_option linter.unusedVariables false
theorem place_negC {ss : List ByteArray} {x : ByteArray} (h : hasS ss x = false) : placeS ss x < 0 := by
 have := placeS_has ss x
 rw [h] at this
 have := of_decide_eq_false this
 omega
theorem place_pos {ss : List ByteArray} {x : ByteArray} (h : hasS ss x = true) : 0 ≤ placeS ss x := by
 have := placeS_has ss x
 rw [h] at this
 exact of_decide_eq_true this
theorem rise_zero {p : Cd} (hl : 0 < p.entry.length) (h : (p.entry[0] != 0) = true) : ¬ RiseAt p 0 := fun hr => by
 have := hr.1 rfl
 rw [getD_get hl] at this
 rw [this] at h; cases h
theorem rise_down {p : Cd} {k : Nat} (hk : k < p.entry.length) (h0 : 0 < k) (hk' : k - 1 < p.entry.length) (h : p.entry[k] ≤ p.entry[k - 1]) : ¬ RiseAt p k := fun hr => by
 have := hr.2.1 h0
 rw [getD_get hk, getD_get hk'] at this
 omega
theorem rise_far {p : Cd} {k : Nat} (hk : k < p.entry.length) (h : (p.ins.length : Int) ≤ p.entry[k]) : ¬ RiseAt p k := fun hr => by
 have := hr.2.2
 rw [getD_get hk] at this
 omega
theorem rise_mk0 {p : Cd} {k : Nat} (hk : k < p.entry.length) (h0 : k = 0) (hl : 0 < p.entry.length) (h : (p.entry[0] != 0) = false) (h2 : p.entry[k] < (p.ins.length : Int)) : RiseAt p k := by
 refine ⟨fun _ => ?_, fun h => by omega, by rw [getD_get hk]; exact h2⟩
 rw [getD_get hl]; simpa using h
theorem rise_mk1 {p : Cd} {k : Nat} (hk : k < p.entry.length) (h0 : 0 < k) (hk' : k - 1 < p.entry.length) (h : p.entry[k - 1] < p.entry[k]) (h2 : p.entry[k] < (p.ins.length : Int)) : RiseAt p k :=
 ⟨fun e => by omega, fun _ => by rw [getD_get hk, getD_get hk']; exact h, by rw [getD_get hk]; exact h2⟩
theorem end_no {p : Cd} {k : Nat} (hk : k < p.ins.length) {b c : Bool} (h : (p.ins[k].op == 9) = b) (h2 : (endE p.entry p.ins.length (procE p.entry k p.entry.length) == (k : Int)) = c) (hne : b ≠ c) : ¬ EndAt p k := fun e => by
 unfold EndAt at e
 rw [opsC_get p hk, h, h2] at e
 exact hne e
theorem end_yes {p : Cd} {k : Nat} (hk : k < p.ins.length) {b : Bool} (h : (p.ins[k].op == 9) = b) (h2 : (endE p.entry p.ins.length (procE p.entry k p.entry.length) == (k : Int)) = b) : EndAt p k := by
 unfold EndAt
 rw [opsC_get p hk, h, h2]
set_option maxHeartbeats 4000000 in
set_option maxRecDepth 100000 in
theorem spec_l08Heads (p : Cd) (x : V5) (w : World) (hp : CdIs w x p) :
  Calls Tryz.prog 65 #[x.val p] w fun e w' => e = .returned (.bool (decP (HeadOk p))) ∧ Below w.heap.size w w' := by
 obtain ⟨gA, gc, lA, lc, pA, pc, eA, ec, iA, ic⟩ := x
 have HP := qh hp
 have hgl := hp.g1
 have hgc := hp.g2
 have hll := hp.l1
 have hlc := hp.l2
 have hpl := hp.p1
 have hpc := hp.p2
 have hel := hp.e1
 have hec := hp.e2
 have hil := hp.i1
 have hic := hp.i2
 simp only at hgl hgc hll hlc hpl hpc hel hec hil hic
 clear hp
 unfold V5.val
 simp only
 cases hg : namesB 6 p.globals with
 | false =>
  have F : Hid (¬ HeadOk p) := qh (fun h => by have := h.nam; rw [namB_1 hg] at this; cases this)
  have H1 := qh hg
  clear hg
  go_enter Tryz.func65, Tryz.ntmps65
  go_wp2_with fail
  refine (spec_l05Names p.globals gA gc 6 _ (HP.out.belowA zB).g3 hgl hgc).mono ?_
  rintro e w1 ⟨rfl, rfl⟩
  rw [H1.out]
  go_wp2_with fail
  go_ret
  exact ⟨ret_bool (decP_no F.out).symm, zB⟩
 | true =>
 have H1 := qh hg
 clear hg
 cases hg : namesB 6 p.locks with
 | false =>
  have F : Hid (¬ HeadOk p) := qh (fun h => by have := h.nam; rw [namB_2 hg] at this; cases this)
  have H2 := qh hg
  clear hg
  go_enter Tryz.func65, Tryz.ntmps65
  go_wp2_with fail
  refine (spec_l05Names p.globals gA gc 6 _ (HP.out.belowA zB).g3 hgl hgc).mono ?_
  rintro e w1 ⟨rfl, rfl⟩
  rw [H1.out]
  go_wp2_with fail
  refine (spec_l05Names p.locks lA lc 6 _ (HP.out.belowA zB).l3 hll hlc).mono ?_
  rintro e w1 ⟨rfl, rfl⟩
  rw [H2.out]
  go_wp2_with fail
  go_ret
  exact ⟨ret_bool (decP_no F.out).symm, zB⟩
 | true =>
 have H2 := qh hg
 clear hg
 cases hg : namesB 8 p.procs with
 | false =>
  have F : Hid (¬ HeadOk p) := qh (fun h => by have := h.nam; rw [namB_3 hg] at this; cases this)
  have H3 := qh hg
  clear hg
  go_enter Tryz.func65, Tryz.ntmps65
  go_wp2_with fail
  refine (spec_l05Names p.globals gA gc 6 _ (HP.out.belowA zB).g3 hgl hgc).mono ?_
  rintro e w1 ⟨rfl, rfl⟩
  rw [H1.out]
  go_wp2_with fail
  refine (spec_l05Names p.locks lA lc 6 _ (HP.out.belowA zB).l3 hll hlc).mono ?_
  rintro e w1 ⟨rfl, rfl⟩
  rw [H2.out]
  go_wp2_with fail
  refine (spec_l05Names p.procs pA pc 8 _ (HP.out.belowA zB).p3 hpl hpc).mono ?_
  rintro e w1 ⟨rfl, rfl⟩
  rw [H3.out]
  go_wp2_with fail
  go_ret
  exact ⟨ret_bool (decP_no F.out).symm, zB⟩
 | true =>
 have H3 := qh hg
 clear hg
 cases hg : twiceS p.globals with
 | true =>
  have F : Hid (¬ HeadOk p) := qh (fun h => by have := h.nam; rw [namB_4 hg] at this; cases this)
  have H4 := qh hg
  clear hg
  go_enter Tryz.func65, Tryz.ntmps65
  go_wp2_with fail
  refine (spec_l05Names p.globals gA gc 6 _ (HP.out.belowA zB).g3 hgl hgc).mono ?_
  rintro e w1 ⟨rfl, rfl⟩
  rw [H1.out]
  go_wp2_with fail
  refine (spec_l05Names p.locks lA lc 6 _ (HP.out.belowA zB).l3 hll hlc).mono ?_
  rintro e w1 ⟨rfl, rfl⟩
  rw [H2.out]
  go_wp2_with fail
  refine (spec_l05Names p.procs pA pc 8 _ (HP.out.belowA zB).p3 hpl hpc).mono ?_
  rintro e w1 ⟨rfl, rfl⟩
  rw [H3.out]
  go_wp2_with fail
  refine (spec_l07Twice _ p.globals _ (HP.out.belowA zB).gs).mono ?_
  rintro e w1 ⟨rfl, n3, rfl⟩
  rw [H4.out]
  go_wp2_with fail
  go_ret
  exact ⟨ret_bool (decP_no F.out).symm, zB⟩
 | false =>
 have H4 := qh hg
 clear hg
 cases hg : twiceS p.locks with
 | true =>
  have F : Hid (¬ HeadOk p) := qh (fun h => by have := h.nam; rw [namB_5 hg] at this; cases this)
  have H5 := qh hg
  clear hg
  go_enter Tryz.func65, Tryz.ntmps65
  go_wp2_with fail
  refine (spec_l05Names p.globals gA gc 6 _ (HP.out.belowA zB).g3 hgl hgc).mono ?_
  rintro e w1 ⟨rfl, rfl⟩
  rw [H1.out]
  go_wp2_with fail
  refine (spec_l05Names p.locks lA lc 6 _ (HP.out.belowA zB).l3 hll hlc).mono ?_
  rintro e w1 ⟨rfl, rfl⟩
  rw [H2.out]
  go_wp2_with fail
  refine (spec_l05Names p.procs pA pc 8 _ (HP.out.belowA zB).p3 hpl hpc).mono ?_
  rintro e w1 ⟨rfl, rfl⟩
  rw [H3.out]
  go_wp2_with fail
  refine (spec_l07Twice _ p.globals _ (HP.out.belowA zB).gs).mono ?_
  rintro e w1 ⟨rfl, n3, rfl⟩
  rw [H4.out]
  go_wp2_with fail
  refine (spec_l07Twice _ p.locks _ (HP.out.belowA zB).ls).mono ?_
  rintro e w1 ⟨rfl, n4, rfl⟩
  rw [H5.out]
  go_wp2_with fail
  go_ret
  exact ⟨ret_bool (decP_no F.out).symm, zB⟩
 | false =>
 have H5 := qh hg
 clear hg
 cases hg : twiceS p.procs with
 | true =>
  have F : Hid (¬ HeadOk p) := qh (fun h => by have := h.nam; rw [namB_6 hg] at this; cases this)
  have H6 := qh hg
  clear hg
  go_enter Tryz.func65, Tryz.ntmps65
  go_wp2_with fail
  refine (spec_l05Names p.globals gA gc 6 _ (HP.out.belowA zB).g3 hgl hgc).mono ?_
  rintro e w1 ⟨rfl, rfl⟩
  rw [H1.out]
  go_wp2_with fail
  refine (spec_l05Names p.locks lA lc 6 _ (HP.out.belowA zB).l3 hll hlc).mono ?_
  rintro e w1 ⟨rfl, rfl⟩
  rw [H2.out]
  go_wp2_with fail
  refine (spec_l05Names p.procs pA pc 8 _ (HP.out.belowA zB).p3 hpl hpc).mono ?_
  rintro e w1 ⟨rfl, rfl⟩
  rw [H3.out]
  go_wp2_with fail
  refine (spec_l07Twice _ p.globals _ (HP.out.belowA zB).gs).mono ?_
  rintro e w1 ⟨rfl, n3, rfl⟩
  rw [H4.out]
  go_wp2_with fail
  refine (spec_l07Twice _ p.locks _ (HP.out.belowA zB).ls).mono ?_
  rintro e w1 ⟨rfl, n4, rfl⟩
  rw [H5.out]
  go_wp2_with fail
  refine (spec_l07Twice _ p.procs _ (HP.out.belowA zB).ps).mono ?_
  rintro e w1 ⟨rfl, n5, rfl⟩
  rw [H6.out]
  go_wp2_with fail
  go_ret
  exact ⟨ret_bool (decP_no F.out).symm, zB⟩
 | false =>
 have H6 := qh hg
 clear hg
 by_cases h7 : p.entry.length = p.procs.length
 case neg =>
  have q7 : ((p.entry.length : Int) != (p.procs.length : Int)) = true := by simp; omega
  have F : Hid (¬ HeadOk p) := qh (fun h => h7 h.same)
  clear h7
  go_enter Tryz.func65, Tryz.ntmps65
  go_wp2_with fail
  refine (spec_l05Names p.globals gA gc 6 _ (HP.out.belowA zB).g3 hgl hgc).mono ?_
  rintro e w1 ⟨rfl, rfl⟩
  rw [H1.out]
  go_wp2_with fail
  refine (spec_l05Names p.locks lA lc 6 _ (HP.out.belowA zB).l3 hll hlc).mono ?_
  rintro e w1 ⟨rfl, rfl⟩
  rw [H2.out]
  go_wp2_with fail
  refine (spec_l05Names p.procs pA pc 8 _ (HP.out.belowA zB).p3 hpl hpc).mono ?_
  rintro e w1 ⟨rfl, rfl⟩
  rw [H3.out]
  go_wp2_with fail
  refine (spec_l07Twice _ p.globals _ (HP.out.belowA zB).gs).mono ?_
  rintro e w1 ⟨rfl, n3, rfl⟩
  rw [H4.out]
  go_wp2_with fail
  refine (spec_l07Twice _ p.locks _ (HP.out.belowA zB).ls).mono ?_
  rintro e w1 ⟨rfl, n4, rfl⟩
  rw [H5.out]
  go_wp2_with fail
  refine (spec_l07Twice _ p.procs _ (HP.out.belowA zB).ps).mono ?_
  rintro e w1 ⟨rfl, n5, rfl⟩
  rw [H6.out]
  go_wp2_with fail
  go_ret
  exact ⟨ret_bool (decP_no F.out).symm, zB⟩
 have q7 : ((p.entry.length : Int) != (p.procs.length : Int)) = false := by simp [h7]
 have H7 := qh h7
 clear h7
 by_cases h8 : 1500 < p.ins.length
 ·have F : Hid (¬ HeadOk p) := qh (fun h => by have := h.small; omega)
  go_enter Tryz.func65, Tryz.ntmps65
  go_wp2_with fail
  refine (spec_l05Names p.globals gA gc 6 _ (HP.out.belowA zB).g3 hgl hgc).mono ?_
  rintro e w1 ⟨rfl, rfl⟩
  rw [H1.out]
  go_wp2_with fail
  refine (spec_l05Names p.locks lA lc 6 _ (HP.out.belowA zB).l3 hll hlc).mono ?_
  rintro e w1 ⟨rfl, rfl⟩
  rw [H2.out]
  go_wp2_with fail
  refine (spec_l05Names p.procs pA pc 8 _ (HP.out.belowA zB).p3 hpl hpc).mono ?_
  rintro e w1 ⟨rfl, rfl⟩
  rw [H3.out]
  go_wp2_with fail
  refine (spec_l07Twice _ p.globals _ (HP.out.belowA zB).gs).mono ?_
  rintro e w1 ⟨rfl, n3, rfl⟩
  rw [H4.out]
  go_wp2_with fail
  refine (spec_l07Twice _ p.locks _ (HP.out.belowA zB).ls).mono ?_
  rintro e w1 ⟨rfl, n4, rfl⟩
  rw [H5.out]
  go_wp2_with fail
  refine (spec_l07Twice _ p.procs _ (HP.out.belowA zB).ps).mono ?_
  rintro e w1 ⟨rfl, n5, rfl⟩
  rw [H6.out]
  go_wp2_with fail
  go_ret
  exact ⟨ret_bool (decP_no F.out).symm, zB⟩
 cases h9 : hasS p.procs mainS with
 | false =>
  have q9 := place_negC h9
  have F : Hid (¬ HeadOk p) := qh (fun h => by have := h.nam; rw [namB_7 h9] at this; cases this)
  clear h9
  go_enter Tryz.func65, Tryz.ntmps65
  go_wp2_with fail
  refine (spec_l05Names p.globals gA gc 6 _ (HP.out.belowA zB).g3 hgl hgc).mono ?_
  rintro e w1 ⟨rfl, rfl⟩
  rw [H1.out]
  go_wp2_with fail
  refine (spec_l05Names p.locks lA lc 6 _ (HP.out.belowA zB).l3 hll hlc).mono ?_
  rintro e w1 ⟨rfl, rfl⟩
  rw [H2.out]
  go_wp2_with fail
  refine (spec_l05Names p.procs pA pc 8 _ (HP.out.belowA zB).p3 hpl hpc).mono ?_
  rintro e w1 ⟨rfl, rfl⟩
  rw [H3.out]
  go_wp2_with fail
  refine (spec_l07Twice _ p.globals _ (HP.out.belowA zB).gs).mono ?_
  rintro e w1 ⟨rfl, n3, rfl⟩
  rw [H4.out]
  go_wp2_with fail
  refine (spec_l07Twice _ p.locks _ (HP.out.belowA zB).ls).mono ?_
  rintro e w1 ⟨rfl, n4, rfl⟩
  rw [H5.out]
  go_wp2_with fail
  refine (spec_l07Twice _ p.procs _ (HP.out.belowA zB).ps).mono ?_
  rintro e w1 ⟨rfl, n5, rfl⟩
  rw [H6.out]
  go_wp2_with fail
  refine (spec_PlaceOf _ p.procs mainS _ (HP.out.belowA zB).ps).mono ?_
  rintro e w1 ⟨rfl, rfl⟩
  go_wp2_with fail
  go_ret
  exact ⟨ret_bool (decP_no F.out).symm, zB⟩
 | true =>
 have q9 := place_pos h9
 have NB : Hid (namB p = true) := qh (by rw [namB_8 H1.out H2.out H3.out H4.out H5.out H6.out, h9])
 have hl0 : 0 < p.entry.length := by rw [H7.out]; exact has_pos h9
 clear h9
 go_enter Tryz.func65, Tryz.ntmps65
 go_wp2_with fail
 refine (spec_l05Names p.globals gA gc 6 _ (HP.out.belowA zB).g3 hgl hgc).mono ?_
 rintro e w1 ⟨rfl, rfl⟩
 rw [H1.out]
 go_wp2_with fail
 refine (spec_l05Names p.locks lA lc 6 _ (HP.out.belowA zB).l3 hll hlc).mono ?_
 rintro e w1 ⟨rfl, rfl⟩
 rw [H2.out]
 go_wp2_with fail
 refine (spec_l05Names p.procs pA pc 8 _ (HP.out.belowA zB).p3 hpl hpc).mono ?_
 rintro e w1 ⟨rfl, rfl⟩
 rw [H3.out]
 go_wp2_with fail
 refine (spec_l07Twice _ p.globals _ (HP.out.belowA zB).gs).mono ?_
 rintro e w1 ⟨rfl, n3, rfl⟩
 rw [H4.out]
 go_wp2_with fail
 refine (spec_l07Twice _ p.locks _ (HP.out.belowA zB).ls).mono ?_
 rintro e w1 ⟨rfl, n4, rfl⟩
 rw [H5.out]
 go_wp2_with fail
 refine (spec_l07Twice _ p.procs _ (HP.out.belowA zB).ps).mono ?_
 rintro e w1 ⟨rfl, n5, rfl⟩
 rw [H6.out]
 go_wp2_with fail
 refine (spec_PlaceOf _ p.procs mainS _ (HP.out.belowA zB).ps).mono ?_
 rintro e w1 ⟨rfl, rfl⟩
 unfold maxLen at hgc hlc hpc hec hic
 go_wp2_with fail
 go_loopw [3] (fun i wr => ∃ k : Nat, k ≤ p.entry.length ∧ i = .int .i64 k ∧ Hid (Below w.heap.size w wr ∧ Box5 wr w.heap.size ⟨gA, gc, lA, lc, pA, pc, eA, ec, iA, ic⟩ p) ∧ Hid (∀ i, i < k → RiseAt p i)) (fun i _ => p.entry.length - (intOf i).toNat)
 case atStart => exact ⟨0, Nat.zero_le _, rfl, qh ⟨zB, ((Box5.new w ⟨gA, gc, lA, lc, pA, pc, eA, ec, iA, ic⟩ p _).below zB)⟩, qh (fun i h => by omega)⟩
 case round =>
  obtain ⟨k, hk, rfl, HB, HT⟩ := hrel
  obtain ⟨p0, p1, p2, p3, p4⟩ := HB.out.2
  simp only at p0 p1 p2 p3 p4
  by_cases hlt : k < p.entry.length
  ·obtain ⟨b, off, e1, hcell⟩ := rd_int (HP.out.belowA HB.out.1).e3 hlt
   obtain ⟨b', off', e2, hcell0⟩ := rd_int (HP.out.belowA HB.out.1).e3 hl0
   simp only at e1 e2
   subst e1
   injection e2 with e2
   injection e2 with e3 e4
   subst e3 e4
   rw [Nat.add_zero] at hcell0
   have hcell0' : wr.cell? ⟨b, off + 0, none⟩ = some (.int .i64 p.entry[0]) := hcell0
   have h0k : (0 : Int) ≤ (k : Int) := by omega
   have h1k : (k : Int) < (p.entry.length : Int) := by omega
   have h2k : (0 : Int) < (p.entry.length : Int) := by omega
   have h3k : (0 : Int) < (ec : Int) := by omega
   by_cases k0 : k = 0
   ·have q0 : ((k : Int) == 0) = true := by simp; omega
    have q0' : decide ((0 : Int) < (k : Int)) = false := decide_no (by omega)
    have q0'' : decide (0 < k) = false := decide_no (by omega)
    cases q1 : (p.entry[0] != 0) with
    | true =>
     have F : Hid (¬ HeadOk p) := qh (fun h => rise_zero hl0 q1 (head_rise h hl0))
     clear k0
     go_wp2_with fail
     go_quiet (fail)
     go_wp2_with fail
     go_ret
     exact ⟨ret_bool (decP_no F.out).symm, below_drewN HB.out.1 _⟩
    | false =>
     by_cases h : (p.ins.length : Int) ≤ p.entry[k]
     ·have F : Hid (¬ HeadOk p) := qh (fun h' => rise_far hlt h (head_rise h' hlt))
      clear k0
      go_wp2_with fail
      go_quiet (fail)
      go_wp2_with fail
      go_ret
      exact ⟨ret_bool (decP_no F.out).symm, below_drewN HB.out.1 _⟩
     ·have h' : p.entry[k] < (p.ins.length : Int) := by omega
      have T : Hid (∀ i, i < k + 1 → RiseAt p i) := qh (fun i hi => by
       obtain rfl : i = k := by omega
       exact rise_mk0 hlt k0 hl0 q1 h')
      clear k0 h
      go_wp2_with fail
      go_quiet (fail)
      go_wp2_with fail
      go_roundw
      case rel => exact ⟨k + 1, by omega, by go_num, qh ⟨below_drewN HB.out.1 _, HB.out.2⟩, T⟩
      case measure => simp [intOf]; omega
   ·have q0 : ((k : Int) == 0) = false := by simp; omega
    have q0' : decide ((0 : Int) < (k : Int)) = true := decide_eq_true (by omega)
    have q0'' : decide (0 < k) = true := decide_eq_true (by omega)
    have hk' : k - 1 < p.entry.length := by omega
    obtain ⟨b', off', e2, hcell1⟩ := rd_int (HP.out.belowA HB.out.1).e3 hk'
    simp only at e2
    injection e2 with e2
    injection e2 with e3 e4
    subst e3 e4
    have w1 : IntKind.i64.wrap ((k : Int) - 1) = (k : Int) - 1 := IntWalk.i64_in _ (by omega)
    have w2 : (0 : Int) ≤ (k : Int) - 1 := by omega
    have w3 : (1 : Int) ≤ (k : Int) := by omega
    have w4 : (k : Int) - 1 < (p.entry.length : Int) := by omega
    have w5 : ((k : Int) - 1).toNat = k - 1 := by omega
    by_cases g : p.entry[k] ≤ p.entry[k - 1]
    ·have F : Hid (¬ HeadOk p) := qh (fun h => rise_down hlt (by omega) hk' g (head_rise h hlt))
     have g' : decide (p.entry[k] ≤ p.entry[k - 1]) = true := decide_eq_true g
     clear k0
     go_wp2_with fail
     go_quiet (fail)
     go_wp2_with fail
     go_ret
     exact ⟨ret_bool (decP_no F.out).symm, below_drewN HB.out.1 _⟩
    ·have g' : decide (p.entry[k] ≤ p.entry[k - 1]) = false := decide_no g
     by_cases h : (p.ins.length : Int) ≤ p.entry[k]
     ·have F : Hid (¬ HeadOk p) := qh (fun h' => rise_far hlt h (head_rise h' hlt))
      have h' : decide ((p.ins.length : Int) ≤ p.entry[k]) = true := decide_eq_true h
      clear k0
      go_wp2_with fail
      go_quiet (fail)
      go_wp2_with fail
      go_ret
      exact ⟨ret_bool (decP_no F.out).symm, below_drewN HB.out.1 _⟩
     ·have h' : decide ((p.ins.length : Int) ≤ p.entry[k]) = false := decide_no h
      have T : Hid (∀ i, i < k + 1 → RiseAt p i) := qh (fun i hi => by
       by_cases e : i = k
       ·subst e; exact rise_mk1 hlt (by omega) hk' (by omega) (by omega)
       ·exact HT.out i (by omega))
      clear k0
      go_wp2_with fail
      go_quiet (fail)
      go_wp2_with fail
      go_roundw
      case rel => exact ⟨k + 1, by omega, by go_num, qh ⟨below_drewN HB.out.1 _, HB.out.2⟩, T⟩
      case measure => simp [intOf]; omega
  ·have HA : Hid (∀ i, i < p.entry.length → RiseAt p i) := qh (fun i hi => HT.out i (by omega))
   have HN := qh (rise_nn HA.out)
   rename World => wq
   clear HT
   go_wp2_with fail
   go_loopw [4] (fun i wr => ∃ k : Nat, k ≤ p.ins.length ∧ i = .int .i64 k ∧ Hid (Below w.heap.size w wr ∧ Box5 wr w.heap.size ⟨gA, gc, lA, lc, pA, pc, eA, ec, iA, ic⟩ p) ∧ Hid (∀ j, j < k → EndAt p j)) (fun i _ => p.ins.length - (intOf i).toNat)
   case atStart => exact ⟨0, Nat.zero_le _, rfl, qh HB.out, qh (fun i h => by omega)⟩
   case round =>
    obtain ⟨j, hj, rfl, HB, HT⟩ := hrel
    by_cases hlt : j < p.ins.length
    ·obtain ⟨b, off, y, e1, _, ⟨d0, _⟩, hI⟩ := rd_ins (HP.out.belowA HB.out.1).i3 hlt
     simp only at e1
     subst e1
     have D0 := qh d0
     have ho := hI.1
     rw [ho] at d0
     have DD := qh d0
     have h0k : (0 : Int) ≤ (j : Int) := by omega
     have h1k : (j : Int) < (p.ins.length : Int) := by omega
     clear d0 D0 hI ho p0 p1 p2 p3 p4
     obtain ⟨p0, p1, p2, p3, p4⟩ := HB.out.2
     simp only at p0 p1 p2 p3 p4
     obtain ⟨b1, q1⟩ : ∃ b1, (p.ins[j].op == 9) = b1 := ⟨_, rfl⟩
     obtain ⟨b2, q2⟩ : ∃ b2, (endE p.entry p.ins.length (procE p.entry j p.entry.length) == (j : Int)) = b2 := ⟨_, rfl⟩
     have lo := procE_lo p.entry j p.entry.length
     have hi := procE_hi p.entry j p.entry.length
     have LH := qh (And.intro lo hi)
     clear lo hi
     by_cases hb : b1 = b2
     ·have T : Hid (∀ i, i < j + 1 → EndAt p i) := qh (fun i hi => by
       by_cases e : i = j
       ·subst e; exact end_yes hlt q1 (by rw [q2, hb])
       ·exact HT.out i (by omega))
      subst hb
      cases b1
      all_goals
       go_wp2_with fail
       clear p0 p1 p2 p3 p4
       refine wp_region_later (by kernel_rfl) (by kernel_rfl) ?_
       intro gw hgw hcw
       have HG := qh hgw
       have HC := qh hcw
       clear hgw hcw
       have P := qh (fun n => HB.out.2.below (HG.out n))
       have p0 : ∀ n, (gw n).cell? ⟨w.heap.size, 0, none⟩ = some (.slice gA p.globals.length gc) := fun n => (P.out n).1
       have p1 : ∀ n, (gw n).cell? ⟨w.heap.size, 1, none⟩ = some (.slice lA p.locks.length lc) := fun n => (P.out n).2.1
       have p2 : ∀ n, (gw n).cell? ⟨w.heap.size, 2, none⟩ = some (.slice pA p.procs.length pc) := fun n => (P.out n).2.2.1
       have p3 : ∀ n, (gw n).cell? ⟨w.heap.size, 3, none⟩ = some (.slice eA p.entry.length ec) := fun n => (P.out n).2.2.2.1
       have p4 : ∀ n, (gw n).cell? ⟨w.heap.size, 4, none⟩ = some (.slice (some ⟨b, off, none⟩) p.ins.length ic) := fun n => (P.out n).2.2.2.2
       have d0 : ∀ n, (gw n).cell? ⟨b, off + j * 7, none⟩ = some (.int .i64 p.ins[j].op) := fun n => cell_keep (HG.out n) DD.out
       repeat (go_big_quiet_step ((first | (go_at_call 91; exact later_of HC (spec_l08Proc p ⟨gA, gc, lA, lc, pA, pc, eA, ec, some ⟨b, off, none⟩, ic⟩ _ ((HP.out.belowA HB.out.1).belowA (HG.out _)) (j : Int))) | (go_at_call 90; exact later_of HC (spec_l08End p ⟨gA, gc, lA, lc, pA, pc, eA, ec, some ⟨b, off, none⟩, ic⟩ _ ((HP.out.belowA HB.out.1).belowA (HG.out _)) _ LH.out.1 LH.out.2 HN.out)))))
       refine wpQuiet_nil ?_
       intro _ hw'
       obtain ⟨nq, hw''⟩ := hw'
       subst hw''
       go_wp2_with fail
       go_roundw
       case rel => exact ⟨j + 1, by omega, by go_num, qh ⟨below_then HB.out.1 (HG.out _), HB.out.2.below (HG.out _)⟩, T⟩
       case measure => simp [intOf]; omega
     ·have F : Hid (¬ HeadOk p) := qh (fun h => end_no hlt q1 q2 hb (head_ends h hlt))
      cases b1 <;> cases b2 <;> first | exact absurd rfl hb | skip
      all_goals
       clear hb
       go_wp2_with fail
       clear p0 p1 p2 p3 p4
       refine wp_region_later (by kernel_rfl) (by kernel_rfl) ?_
       intro gw hgw hcw
       have HG := qh hgw
       have HC := qh hcw
       clear hgw hcw
       have P := qh (fun n => HB.out.2.below (HG.out n))
       have p0 : ∀ n, (gw n).cell? ⟨w.heap.size, 0, none⟩ = some (.slice gA p.globals.length gc) := fun n => (P.out n).1
       have p1 : ∀ n, (gw n).cell? ⟨w.heap.size, 1, none⟩ = some (.slice lA p.locks.length lc) := fun n => (P.out n).2.1
       have p2 : ∀ n, (gw n).cell? ⟨w.heap.size, 2, none⟩ = some (.slice pA p.procs.length pc) := fun n => (P.out n).2.2.1
       have p3 : ∀ n, (gw n).cell? ⟨w.heap.size, 3, none⟩ = some (.slice eA p.entry.length ec) := fun n => (P.out n).2.2.2.1
       have p4 : ∀ n, (gw n).cell? ⟨w.heap.size, 4, none⟩ = some (.slice (some ⟨b, off, none⟩) p.ins.length ic) := fun n => (P.out n).2.2.2.2
       have d0 : ∀ n, (gw n).cell? ⟨b, off + j * 7, none⟩ = some (.int .i64 p.ins[j].op) := fun n => cell_keep (HG.out n) DD.out
       repeat (go_big_quiet_step ((first | (go_at_call 91; exact later_of HC (spec_l08Proc p ⟨gA, gc, lA, lc, pA, pc, eA, ec, some ⟨b, off, none⟩, ic⟩ _ ((HP.out.belowA HB.out.1).belowA (HG.out _)) (j : Int))) | (go_at_call 90; exact later_of HC (spec_l08End p ⟨gA, gc, lA, lc, pA, pc, eA, ec, some ⟨b, off, none⟩, ic⟩ _ ((HP.out.belowA HB.out.1).belowA (HG.out _)) _ LH.out.1 LH.out.2 HN.out)))))
       refine wpQuiet_nil ?_
       intro _ hw'
       obtain ⟨nq, hw''⟩ := hw'
       subst hw''
       go_wp2_with fail
       go_ret
       exact ⟨ret_bool (decP_no F.out).symm, below_then HB.out.1 (HG.out _)⟩
    ·have T : Hid (HeadOk p) := qh (head_mk NB.out H7.out (by omega) HA.out (fun j' h' => HT.out j' (by omega)))
     obtain ⟨p0, p1, p2, p3, p4⟩ := HB.out.2
     simp only at p0 p1 p2 p3 p4
     go_wp2_with fail
     go_ret
     exact ⟨ret_bool (decP_yes T.out).symm, HB.out.1⟩
end Go.Proofs.YtnmblfonmfjoeaaGreatDoor
