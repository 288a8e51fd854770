/- ProgOk in the program, and the law. -/
import Derived.Test.YtefcdpkficojgaaDoorPgOk
namespace Go.Proofs.YtefcdpkficojgaaDoor
open Go.RowKit
set_option linter.unusedVariables false

set_option maxHeartbeats 1600000 in
theorem impl_ProgOk (p : Pg) (x : V3) (w : World) (hp : PgIs w x p) (htot : totPg p ≤ 1048576) :
    Calls Tryd.prog 111 #[x.val p] w fun e w' => e = .returned (.bool (okPg p)) ∧ Below w.heap.size w w' := by
  obtain ⟨gA, gc, lA, lc, pA, pc⟩ := x
  have HP := Lib.hid hp
  have hpl := hp.p1
  have hpc := hp.p2
  have hgl := hp.g1
  have hgc := hp.g2
  have hll := hp.l1
  have hlc := hp.l2
  clear hp
  simp only at hpl hpc hgl hgc hll hlc
  unfold maxLen at hpc
  unfold V3.val
  simp only
  cases hg : namesB 6 p.globals with
  | false =>
    have F := Lib.hid (okPg_g hg)
    have HG := Lib.hid hg
    clear hg
    go_enter Tryd.func111, Tryd.ntmps111
    go_wp2_with fail
    refine (impl_areNames p.globals gA gc 6 _ (HP.out.belowA (by repeat' (first | exact Below.refl _ _ | exact Nat.le_refl _ | (refine Below.alloc ?_ ?_ _) | (refine Below.setCell ?_ ?_ _) | (refine Below.drew ?_) | (refine below_drewN ?_ _) | assumption | (simp; done) | (simp; omega)))).g3 hgl hgc).mono ?_
    rintro e w1 ⟨rfl, rfl⟩
    rw [HG.out]
    go_wp2_with fail
    go_ret
    exact ⟨ret_bool F.out.symm, (by repeat' (first | exact Below.refl _ _ | exact Nat.le_refl _ | (refine Below.alloc ?_ ?_ _) | (refine Below.setCell ?_ ?_ _) | (refine Below.drew ?_) | (refine below_drewN ?_ _) | assumption | (simp; done) | (simp; omega)))⟩
  | true =>
  have HG := Lib.hid hg
  clear hg
  cases hg : namesB 6 p.locks with
  | false =>
    have F := Lib.hid (okPg_l hg)
    have HL := Lib.hid hg
    clear hg
    go_enter Tryd.func111, Tryd.ntmps111
    go_wp2_with fail
    refine (impl_areNames p.globals gA gc 6 _ (HP.out.belowA (by repeat' (first | exact Below.refl _ _ | exact Nat.le_refl _ | (refine Below.alloc ?_ ?_ _) | (refine Below.setCell ?_ ?_ _) | (refine Below.drew ?_) | (refine below_drewN ?_ _) | assumption | (simp; done) | (simp; omega)))).g3 hgl hgc).mono ?_
    rintro e w1 ⟨rfl, rfl⟩
    rw [HG.out]
    go_wp2_with fail
    refine (impl_areNames p.locks lA lc 6 _ (HP.out.belowA (by repeat' (first | exact Below.refl _ _ | exact Nat.le_refl _ | (refine Below.alloc ?_ ?_ _) | (refine Below.setCell ?_ ?_ _) | (refine Below.drew ?_) | (refine below_drewN ?_ _) | assumption | (simp; done) | (simp; omega)))).l3 hll hlc).mono ?_
    rintro e w1 ⟨rfl, rfl⟩
    rw [HL.out]
    go_wp2_with fail
    go_ret
    exact ⟨ret_bool F.out.symm, (by repeat' (first | exact Below.refl _ _ | exact Nat.le_refl _ | (refine Below.alloc ?_ ?_ _) | (refine Below.setCell ?_ ?_ _) | (refine Below.drew ?_) | (refine below_drewN ?_ _) | assumption | (simp; done) | (simp; omega)))⟩
  | true =>
  have HL := Lib.hid hg
  clear hg
  by_cases hm : 8 < p.procs.length
  · have F := Lib.hid (okPg_m hm)
    go_enter Tryd.func111, Tryd.ntmps111
    go_wp2_with fail
    refine (impl_areNames p.globals gA gc 6 _ (HP.out.belowA (by repeat' (first | exact Below.refl _ _ | exact Nat.le_refl _ | (refine Below.alloc ?_ ?_ _) | (refine Below.setCell ?_ ?_ _) | (refine Below.drew ?_) | (refine below_drewN ?_ _) | assumption | (simp; done) | (simp; omega)))).g3 hgl hgc).mono ?_
    rintro e w1 ⟨rfl, rfl⟩
    rw [HG.out]
    go_wp2_with fail
    refine (impl_areNames p.locks lA lc 6 _ (HP.out.belowA (by repeat' (first | exact Below.refl _ _ | exact Nat.le_refl _ | (refine Below.alloc ?_ ?_ _) | (refine Below.setCell ?_ ?_ _) | (refine Below.drew ?_) | (refine below_drewN ?_ _) | assumption | (simp; done) | (simp; omega)))).l3 hll hlc).mono ?_
    rintro e w1 ⟨rfl, rfl⟩
    rw [HL.out]
    go_wp2_with fail
    go_ret
    exact ⟨ret_bool F.out.symm, (by repeat' (first | exact Below.refl _ _ | exact Nat.le_refl _ | (refine Below.alloc ?_ ?_ _) | (refine Below.setCell ?_ ?_ _) | (refine Below.drew ?_) | (refine below_drewN ?_ _) | assumption | (simp; done) | (simp; omega)))⟩
  go_enter Tryd.func111, Tryd.ntmps111
  go_wp2_with fail
  refine (impl_areNames p.globals gA gc 6 _ (HP.out.belowA (by repeat' (first | exact Below.refl _ _ | exact Nat.le_refl _ | (refine Below.alloc ?_ ?_ _) | (refine Below.setCell ?_ ?_ _) | (refine Below.drew ?_) | (refine below_drewN ?_ _) | assumption | (simp; done) | (simp; omega)))).g3 hgl hgc).mono ?_
  rintro e w1 ⟨rfl, rfl⟩
  rw [HG.out]
  go_wp2_with fail
  refine (impl_areNames p.locks lA lc 6 _ (HP.out.belowA (by repeat' (first | exact Below.refl _ _ | exact Nat.le_refl _ | (refine Below.alloc ?_ ?_ _) | (refine Below.setCell ?_ ?_ _) | (refine Below.drew ?_) | (refine below_drewN ?_ _) | assumption | (simp; done) | (simp; omega)))).l3 hll hlc).mono ?_
  rintro e w1 ⟨rfl, rfl⟩
  rw [HL.out]
  go_wp2_with fail
  go_loopw [25] (fun i wr => ∃ k : Nat, k ≤ p.procs.length ∧ i = .int .i64 k ∧ Hid (Below w.heap.size w wr ∧ (p.procs.take k).all okPr = true)) (fun i _ => p.procs.length - (intOf i).toNat)
  case atStart => exact ⟨0, Nat.zero_le _, rfl, Lib.hid ⟨(by repeat' (first | exact Below.refl _ _ | exact Nat.le_refl _ | (refine Below.alloc ?_ ?_ _) | (refine Below.setCell ?_ ?_ _) | (refine Below.drew ?_) | (refine below_drewN ?_ _) | assumption | (simp; done) | (simp; omega))), by simp⟩⟩
  case round =>
    obtain ⟨k, hk, rfl, HT⟩ := hrel
    have HB := Lib.hid HT.out.1
    by_cases hlt : k < p.procs.length
    · have HR := Lib.hid (HP.out.belowA HB.out).p3
      obtain ⟨b, off, y, rfl, d0, d1, hnm, hym, _, hbc, hcm, row⟩ := rd_proc HR.out hlt
      rw [hym] at d1
      have ROW := Lib.hid row
      have tb := tot_body hlt htot
      have h0k : (0 : Int) ≤ (k : Int) := by omega
      have hbl := cell_lt d0
      have BOXQ : Hid (RoomAt ((wr.alloc (.cells #[.string y.s, .slice y.A p.procs[k].body.length y.c] 145)).alloc (.cells #[.int .i64 60] 3)) (wr.heap.size + 1) ((60 : Nat) : Int)) := Lib.hid (by
        have := heap_alloc_new (wr.alloc (.cells #[.string y.s, .slice y.A p.procs[k].body.length y.c] 145)) (.cells #[.int .i64 60] 3)
        rw [show (wr.alloc (.cells #[.string y.s, .slice y.A p.procs[k].body.length y.c] 145)).heap.size = wr.heap.size + 1 from by simp] at this
        exact this)
      clear row hym HR
      cases hn : isNameL y.s.data.toList with
      | false =>
        have F : Hid (okPg p = false) := Lib.hid (okPg_p (all_not hlt (by unfold okPr; rw [hnm, hn]; rfl)))
        have HN := Lib.hid hn
        clear hn hnm
        go_wp2_with (go_at_call 27; refine (impl_IsName _ _).mono ?_; rintro e w' ⟨rfl, rfl⟩; rw [HN.out])
        go_ret
        exact ⟨ret_bool F.out.symm, Below.alloc (Below.alloc HB.out HB.out.size _) (by have := HB.out.size; simp; omega) _⟩
      | true =>
        have HN := Lib.hid hn
        clear hn
        cases hq : fitGs 6 60 p.procs[k].body with
        | false =>
          have F : Hid (okPg p = false) := Lib.hid (okPg_p (all_not hlt (by unfold okPr; rw [hnm, hq, Bool.and_false])))
          have HQ := Lib.hid hq
          clear hq hnm
          go_wp2_with (go_at_call 27; refine (impl_IsName _ _).mono ?_; rintro e w' ⟨rfl, rfl⟩; rw [HN.out])
          refine (impl_stmtsFit p.procs[k].body y.A y.c 6 60 (wr.heap.size + 1) _ (ROW.out.keep (fun _ hp _ => (Below.alloc (Below.alloc (Below.refl wr.heap.size wr) (Nat.le_refl _) _) (by simp) _).cell hp) (fun b hb _ => by omega)) hbc hcm tb (by omega) (by omega) BOXQ.out).mono ?_
          rintro e w1 ⟨rfl, k1, _⟩
          have B1 : Hid (Below w.heap.size w w1) := Lib.hid (Below.trans (Below.alloc (Below.alloc HB.out HB.out.size _) (by have := HB.out.size; simp; omega) _) (k1.below (by have := HB.out.size; simp; omega) (fun b hb => by have := HB.out.size; omega)))
          rw [HQ.out]
          clear k1
          go_wp2_with fail
          go_ret
          exact ⟨ret_bool F.out.symm, B1.out⟩
        | true =>
          have T := Lib.hid (all_next hlt HT.out.2 (by unfold okPr; rw [hnm, HN.out, hq]; rfl))
          have HQ := Lib.hid hq
          clear hq hnm
          go_wp2_with (go_at_call 27; refine (impl_IsName _ _).mono ?_; rintro e w' ⟨rfl, rfl⟩; rw [HN.out])
          refine (impl_stmtsFit p.procs[k].body y.A y.c 6 60 (wr.heap.size + 1) _ (ROW.out.keep (fun _ hp _ => (Below.alloc (Below.alloc (Below.refl wr.heap.size wr) (Nat.le_refl _) _) (by simp) _).cell hp) (fun b hb _ => by omega)) hbc hcm tb (by omega) (by omega) BOXQ.out).mono ?_
          rintro e w1 ⟨rfl, k1, _⟩
          have B1 : Hid (Below w.heap.size w w1) := Lib.hid (Below.trans (Below.alloc (Below.alloc HB.out HB.out.size _) (by have := HB.out.size; simp; omega) _) (k1.below (by have := HB.out.size; simp; omega) (fun b hb => by have := HB.out.size; omega)))
          rw [HQ.out]
          clear k1
          go_wp2_with fail
          go_roundw
          case rel => exact ⟨k + 1, by omega, by go_num, Lib.hid ⟨B1.out, T.out⟩⟩
          case measure => simp [intOf]; omega
    · have T : Hid (okPg p = true) := Lib.hid (okPg_yes HG.out HL.out (by omega) (by have := HT.out.2; rwa [List.take_of_length_le (by omega)] at this))
      go_wp2_with fail
      go_ret
      exact ⟨ret_bool T.out.symm, HB.out⟩
end Go.Proofs.YtefcdpkficojgaaDoor
