/- ProgOk in the program, and the law. -/
import Derived.Test.YtkipkincggajcaaPgOk
namespace Go.Proofs.Ytkipkincggajcaa
open Go.RowKit
set_option linter.unusedVariables false

set_option maxHeartbeats 1600000 in
theorem impl_ProgOk (p : Pg) (x : V3) (w : World) (hp : PgIs w x p) (htot : totPg p ≤ 1048576) :
    Calls Try.prog 37 #[x.val p] w fun e w' => e = .returned (.bool (okPg p)) ∧ Below w.heap.size w w' := by
  obtain ⟨gA, gc, lA, lc, pA, pc⟩ := x
  have HP := Lib.hid hp
  have hpl := hp.p1
  have hpc := hp.p2
  have hgl := hp.g1
  have hgc := hp.g2
  have hll := hp.l1
  have hlc := hp.l2
  clear hp
  simp only at hpl hpc hgl hgc hll hlc
  unfold maxLen at hpc
  unfold V3.val
  simp only
  cases hg : namesB 6 p.globals with
  | false =>
    have F := Lib.hid (okPg_g hg)
    have HG := Lib.hid hg
    clear hg
    go_enter Try.func37, Try.ntmps37
    go_wp2_with fail
    refine (impl_areNames p.globals gA gc 6 _ (HP.out.belowA (by repeat' (first | exact Below.refl _ _ | exact Nat.le_refl _ | (refine Below.alloc ?_ ?_ _) | (refine Below.setCell ?_ ?_ _) | (refine Below.drew ?_) | (refine below_drewN ?_ _) | assumption | (simp; done) | (simp; omega)))).g3 hgl hgc).mono ?_
    rintro e w1 ⟨rfl, rfl⟩
    rw [HG.out]
    go_wp2_with fail
    go_ret
    exact ⟨ret_bool F.out.symm, (by repeat' (first | exact Below.refl _ _ | exact Nat.le_refl _ | (refine Below.alloc ?_ ?_ _) | (refine Below.setCell ?_ ?_ _) | (refine Below.drew ?_) | (refine below_drewN ?_ _) | assumption | (simp; done) | (simp; omega)))⟩
  | true =>
  have HG := Lib.hid hg
  clear hg
  cases hg : namesB 6 p.locks with
  | false =>
    have F := Lib.hid (okPg_l hg)
    have HL := Lib.hid hg
    clear hg
    go_enter Try.func37, Try.ntmps37
    go_wp2_with fail
    refine (impl_areNames p.globals gA gc 6 _ (HP.out.belowA (by repeat' (first | exact Below.refl _ _ | exact Nat.le_refl _ | (refine Below.alloc ?_ ?_ _) | (refine Below.setCell ?_ ?_ _) | (refine Below.drew ?_) | (refine below_drewN ?_ _) | assumption | (simp; done) | (simp; omega)))).g3 hgl hgc).mono ?_
    rintro e w1 ⟨rfl, rfl⟩
    rw [HG.out]
    go_wp2_with fail
    refine (impl_areNames p.locks lA lc 6 _ (HP.out.belowA (by repeat' (first | exact Below.refl _ _ | exact Nat.le_refl _ | (refine Below.alloc ?_ ?_ _) | (refine Below.setCell ?_ ?_ _) | (refine Below.drew ?_) | (refine below_drewN ?_ _) | assumption | (simp; done) | (simp; omega)))).l3 hll hlc).mono ?_
    rintro e w1 ⟨rfl, rfl⟩
    rw [HL.out]
    go_wp2_with fail
    go_ret
    exact ⟨ret_bool F.out.symm, (by repeat' (first | exact Below.refl _ _ | exact Nat.le_refl _ | (refine Below.alloc ?_ ?_ _) | (refine Below.setCell ?_ ?_ _) | (refine Below.drew ?_) | (refine below_drewN ?_ _) | assumption | (simp; done) | (simp; omega)))⟩
  | true =>
  have HL := Lib.hid hg
  clear hg
  by_cases hm : 8 < p.procs.length
  · have F := Lib.hid (okPg_m hm)
    go_enter Try.func37, Try.ntmps37
    go_wp2_with fail
    refine (impl_areNames p.globals gA gc 6 _ (HP.out.belowA (by repeat' (first | exact Below.refl _ _ | exact Nat.le_refl _ | (refine Below.alloc ?_ ?_ _) | (refine Below.setCell ?_ ?_ _) | (refine Below.drew ?_) | (refine below_drewN ?_ _) | assumption | (simp; done) | (simp; omega)))).g3 hgl hgc).mono ?_
    rintro e w1 ⟨rfl, rfl⟩
    rw [HG.out]
    go_wp2_with fail
    refine (impl_areNames p.locks lA lc 6 _ (HP.out.belowA (by repeat' (first | exact Below.refl _ _ | exact Nat.le_refl _ | (refine Below.alloc ?_ ?_ _) | (refine Below.setCell ?_ ?_ _) | (refine Below.drew ?_) | (refine below_drewN ?_ _) | assumption | (simp; done) | (simp; omega)))).l3 hll hlc).mono ?_
    rintro e w1 ⟨rfl, rfl⟩
    rw [HL.out]
    go_wp2_with fail
    go_ret
    exact ⟨ret_bool F.out.symm, (by repeat' (first | exact Below.refl _ _ | exact Nat.le_refl _ | (refine Below.alloc ?_ ?_ _) | (refine Below.setCell ?_ ?_ _) | (refine Below.drew ?_) | (refine below_drewN ?_ _) | assumption | (simp; done) | (simp; omega)))⟩
  go_enter Try.func37, Try.ntmps37
  go_wp2_with fail
  refine (impl_areNames p.globals gA gc 6 _ (HP.out.belowA (by repeat' (first | exact Below.refl _ _ | exact Nat.le_refl _ | (refine Below.alloc ?_ ?_ _) | (refine Below.setCell ?_ ?_ _) | (refine Below.drew ?_) | (refine below_drewN ?_ _) | assumption | (simp; done) | (simp; omega)))).g3 hgl hgc).mono ?_
  rintro e w1 ⟨rfl, rfl⟩
  rw [HG.out]
  go_wp2_with fail
  refine (impl_areNames p.locks lA lc 6 _ (HP.out.belowA (by repeat' (first | exact Below.refl _ _ | exact Nat.le_refl _ | (refine Below.alloc ?_ ?_ _) | (refine Below.setCell ?_ ?_ _) | (refine Below.drew ?_) | (refine below_drewN ?_ _) | assumption | (simp; done) | (simp; omega)))).l3 hll hlc).mono ?_
  rintro e w1 ⟨rfl, rfl⟩
  rw [HL.out]
  go_wp2_with fail
  go_loopw [25] (fun i wr => ∃ k : Nat, k ≤ p.procs.length ∧ i = .int .i64 k ∧ Hid (Below w.heap.size w wr ∧ (p.procs.take k).all okPr = true)) (fun i _ => p.procs.length - (intOf i).toNat)
  case atStart => exact ⟨0, Nat.zero_le _, rfl, Lib.hid ⟨(by repeat' (first | exact Below.refl _ _ | exact Nat.le_refl _ | (refine Below.alloc ?_ ?_ _) | (refine Below.setCell ?_ ?_ _) | (refine Below.drew ?_) | (refine below_drewN ?_ _) | assumption | (simp; done) | (simp; omega))), by simp⟩⟩
  case round =>
    obtain ⟨k, hk, rfl, HT⟩ := hrel
    have HB := Lib.hid HT.out.1
    by_cases hlt : k < p.procs.length
    · have HR := Lib.hid (HP.out.belowA HB.out).p3
      obtain ⟨b, off, y, rfl, d0, d1, hnm, hym, _, hbc, hcm, row⟩ := rd_proc HR.out hlt
      rw [hym] at d1
      have ROW := Lib.hid row
      have tb := tot_body hlt htot
      have h0k : (0 : Int) ≤ (k : Int) := by omega
      have hbl := cell_lt d0
      have BOXQ : Hid (RoomAt ((wr.alloc (.cells #[.string y.s, .slice y.A p.procs[k].body.length y.c] 78)).alloc (.cells #[.int .i64 60] 3)) (wr.heap.size + 1) ((60 : Nat) : Int)) := Lib.hid (by
        have := heap_alloc_new (wr.alloc (.cells #[.string y.s, .slice y.A p.procs[k].body.length y.c] 78)) (.cells #[.int .i64 60] 3)
        rw [show (wr.alloc (.cells #[.string y.s, .slice y.A p.procs[k].body.length y.c] 78)).heap.size = wr.heap.size + 1 from by simp] at this
        exact this)
      clear row hym HR
      cases hn : isNameL y.s.data.toList with
      | false =>
        have F : Hid (okPg p = false) := Lib.hid (okPg_p (all_not hlt (by unfold okPr; rw [hnm, hn]; rfl)))
        have HN := Lib.hid hn
        clear hn hnm
        go_wp2_with (go_at_call 95; refine (impl_IsName _ _).mono ?_; rintro e w' ⟨rfl, rfl⟩; rw [HN.out])
        go_ret
        exact ⟨ret_bool F.out.symm, Below.alloc (Below.alloc HB.out HB.out.size _) (by have := HB.out.size; simp; omega) _⟩
      | true =>
        have HN := Lib.hid hn
        clear hn
        cases hq : fitGs 6 60 p.procs[k].body with
        | false =>
          have F : Hid (okPg p = false) := Lib.hid (okPg_p (all_not hlt (by unfold okPr; rw [hnm, hq, Bool.and_false])))
          have HQ := Lib.hid hq
          clear hq hnm
          go_wp2_with (go_at_call 95; refine (impl_IsName _ _).mono ?_; rintro e w' ⟨rfl, rfl⟩; rw [HN.out])
          refine (impl_stmtsFit p.procs[k].body y.A y.c 6 60 (wr.heap.size + 1) _ (ROW.out.keep (fun _ hp _ => (Below.alloc (Below.alloc (Below.refl wr.heap.size wr) (Nat.le_refl _) _) (by simp) _).cell hp) (fun b hb _ => by omega)) hbc hcm tb (by omega) (by omega) BOXQ.out).mono ?_
          rintro e w1 ⟨rfl, k1, _⟩
          have B1 : Hid (Below w.heap.size w w1) := Lib.hid (Below.trans (Below.alloc (Below.alloc HB.out HB.out.size _) (by have := HB.out.size; simp; omega) _) (k1.below (by have := HB.out.size; simp; omega) (fun b hb => by have := HB.out.size; omega)))
          rw [HQ.out]
          clear k1
          go_wp2_with fail
          go_ret
          exact ⟨ret_bool F.out.symm, B1.out⟩
        | true =>
          have T := Lib.hid (all_next hlt HT.out.2 (by unfold okPr; rw [hnm, HN.out, hq]; rfl))
          have HQ := Lib.hid hq
          clear hq hnm
          go_wp2_with (go_at_call 95; refine (impl_IsName _ _).mono ?_; rintro e w' ⟨rfl, rfl⟩; rw [HN.out])
          refine (impl_stmtsFit p.procs[k].body y.A y.c 6 60 (wr.heap.size + 1) _ (ROW.out.keep (fun _ hp _ => (Below.alloc (Below.alloc (Below.refl wr.heap.size wr) (Nat.le_refl _) _) (by simp) _).cell hp) (fun b hb _ => by omega)) hbc hcm tb (by omega) (by omega) BOXQ.out).mono ?_
          rintro e w1 ⟨rfl, k1, _⟩
          have B1 : Hid (Below w.heap.size w w1) := Lib.hid (Below.trans (Below.alloc (Below.alloc HB.out HB.out.size _) (by have := HB.out.size; simp; omega) _) (k1.below (by have := HB.out.size; simp; omega) (fun b hb => by have := HB.out.size; omega)))
          rw [HQ.out]
          clear k1
          go_wp2_with fail
          go_roundw
          case rel => exact ⟨k + 1, by omega, by go_num, Lib.hid ⟨B1.out, T.out⟩⟩
          case measure => simp [intOf]; omega
    · have T : Hid (okPg p = true) := Lib.hid (okPg_yes HG.out HL.out (by omega) (by have := HT.out.2; rwa [List.take_of_length_le (by omega)] at this))
      go_wp2_with fail
      go_ret
      exact ⟨ret_bool T.out.symm, HB.out⟩
set_option maxHeartbeats 1600000 in
theorem law_ProgOk (v : Value) (p : Pg) (w : World) (o : IsProg w v p) :
    Calls Try.prog 6 #[v] w fun e w' => e = .returned (.bool true) ∧ Below w.heap.size w w' := by
  obtain ⟨x, rfl, hp⟩ := o
  have HP := Lib.hid hp
  clear hp
  by_cases h1 : (1048576 : Int) - (totPg p : Int) < 0
  · have C1 := Lib.hid (cut0_neg h1)
    unfold V3.val
    go_enter Try.func6, Try.ntmps6
    go_wp2_with fail
    refine (laws_szProg p x _ 1048576 (HP.out.belowA (by repeat' (first | exact Below.refl _ _ | exact Nat.le_refl _ | (refine Below.alloc ?_ ?_ _) | (refine Below.setCell ?_ ?_ _) | (refine Below.drew ?_) | (refine below_drewN ?_ _) | assumption | (simp; done) | (simp; omega)))) (by omega) (by omega)).mono ?_
    rintro e w1 ⟨rfl, b1⟩
    have B1 : Hid (Below w.heap.size w w1) := Lib.hid (Below.trans (by repeat' (first | exact Below.refl _ _ | exact Nat.le_refl _ | (refine Below.alloc ?_ ?_ _) | (refine Below.setCell ?_ ?_ _) | (refine Below.drew ?_) | (refine below_drewN ?_ _) | assumption | (simp; done) | (simp; omega))) (b1.mono (by simp)))
    rw [C1.out]
    clear b1
    go_wp2_with fail
    go_ret
    exact ⟨rfl, B1.out⟩
  have C1 := Lib.hid (cut0_pos (n := (1048576 : Int) - (totPg p : Int)) (by omega))
  have htot : totPg p ≤ 1048576 := by omega
  have h1' : 0 ≤ (1048576 : Int) - (totPg p : Int) := by omega
  unfold V3.val
  go_enter Try.func6, Try.ntmps6
  go_wp2_with fail
  refine (laws_szProg p x _ 1048576 (HP.out.belowA (by repeat' (first | exact Below.refl _ _ | exact Nat.le_refl _ | (refine Below.alloc ?_ ?_ _) | (refine Below.setCell ?_ ?_ _) | (refine Below.drew ?_) | (refine below_drewN ?_ _) | assumption | (simp; done) | (simp; omega)))) (by omega) (by omega)).mono ?_
  rintro e w1 ⟨rfl, b1⟩
  have H1 : Hid (Below w.heap.size w w1) := Lib.hid (Below.trans (by repeat' (first | exact Below.refl _ _ | exact Nat.le_refl _ | (refine Below.alloc ?_ ?_ _) | (refine Below.setCell ?_ ?_ _) | (refine Below.drew ?_) | (refine below_drewN ?_ _) | assumption | (simp; done) | (simp; omega))) (b1.mono (by simp)))
  have BX1 : Hid (BoxB w1 w.heap.size [.slice x.gA p.globals.length x.gc, .slice x.lA p.locks.length x.lc, .slice x.pA p.procs.length x.pc]) := Lib.hid (BoxB.below (BoxB.lit rfl) b1)
  rw [C1.out]
  clear b1
  have p0 := BX1.out 0 _ rfl
  have p1 := BX1.out 1 _ rfl
  have p2 := BX1.out 2 _ rfl
  go_wp2_with fail
  refine (laws_toProg p x _ (HP.out.belowA H1.out) htot).mono ?_
  rintro e w2 ⟨x2, rfl, o2, b2⟩
  have T2 := Lib.hid o2.any
  have H2 := Lib.hid (below_then H1.out b2)
  have BX2 := Lib.hid (BX1.out.below b2)
  clear b2 o2 p0 p1 p2 BX1 H1
  go_wp2_with fail
  refine (spec_ProgOk p x2 _ T2.out htot).mono ?_
  rintro e w3 ⟨rfl, b3⟩
  have H3 := Lib.hid (below_then H2.out b3)
  have BX3 := Lib.hid (BX2.out.below b3)
  clear b3 BX2 H2 T2
  have p0 := BX3.out 0 _ rfl
  have p1 := BX3.out 1 _ rfl
  have p2 := BX3.out 2 _ rfl
  go_wp2_with fail
  refine (laws_toProg p x _ (HP.out.belowA H3.out) htot).mono ?_
  rintro e w4 ⟨x4, rfl, o4, b4⟩
  have T4 := Lib.hid o4.any
  have H4 := Lib.hid (below_then H3.out b4)
  have BX4 := Lib.hid (BX3.out.below b4)
  clear b4 o4 p0 p1 p2 BX3 H3
  unfold V3.val
  go_wp2_with fail
  refine (impl_ProgOk p x4 _ (T4.out.belowA (by repeat' (first | exact Below.refl _ _ | exact Nat.le_refl _ | (refine Below.alloc ?_ ?_ _) | (refine Below.setCell ?_ ?_ _) | (refine Below.drew ?_) | (refine below_drewN ?_ _) | assumption | (simp; done) | (simp; omega)))) htot).mono ?_
  rintro e w5 ⟨rfl, b5⟩
  have B5 : Below w4.heap.size w4 w5 := Below.trans (Below.alloc (Below.refl _ _) (Nat.le_refl _) _) (b5.mono (by simp))
  have BY5 : Hid (BoxB w5 w4.heap.size [.slice x4.gA p.globals.length x4.gc, .slice x4.lA p.locks.length x4.lc, .slice x4.pA p.procs.length x4.pc]) := Lib.hid (BoxB.below (BoxB.lit rfl) b5)
  have BX5 := Lib.hid (BX4.out.below B5)
  have T5 := Lib.hid (T4.out.belowA B5)
  have H5 := Lib.hid (below_then H4.out B5)
  have P5 := Lib.hid (HP.out.belowA H5.out)
  have hne : (okPg p != okPg p) = false := by simp
  have st : decB (p = p) = true := decB_yes rfl
  clear b5 B5 BX4 H4 T4
  have p0 := BX5.out 0 _ rfl
  have p1 := BX5.out 1 _ rfl
  have p2 := BX5.out 2 _ rfl
  have r0 := BY5.out 0 _ rfl
  have r1 := BY5.out 1 _ rfl
  have r2 := BY5.out 2 _ rfl
  go_wp2_with fail
  go_region_held3 (fun w' => w'.cell? ⟨w.heap.size, 0, none⟩ = some (.slice x.gA p.globals.length x.gc) ∧ w'.cell? ⟨w.heap.size, 1, none⟩ = some (.slice x.lA p.locks.length x.lc) ∧ w'.cell? ⟨w.heap.size, 2, none⟩ = some (.slice x.pA p.procs.length x.pc) ∧ w'.cell? ⟨w4.heap.size, 0, none⟩ = some (.slice x4.gA p.globals.length x4.gc) ∧ w'.cell? ⟨w4.heap.size, 1, none⟩ = some (.slice x4.lA p.locks.length x4.lc) ∧ w'.cell? ⟨w4.heap.size, 2, none⟩ = some (.slice x4.pA p.procs.length x4.pc))
    (first | go_keep | (go_split_ands; refine ⟨?_, ?_, ?_, ?_, ?_, ?_⟩ <;> first | exact cell_keep b10 (by assumption) | exact cell_keep b9 (by assumption)))
    (first
      | (go_at_call 33; (refine (laws_toProg p x _ (by exact P5.out.drew) htot).mono ?_); rintro e w9 ⟨x9, rfl, o9, b9⟩; unfold V3.val)
      | (go_at_call 35; refine (laws_eqProg p p x4 x9 _ (by exact T5.out.drew.belowA b9) (by exact o9.any)).mono ?_; rintro e w10 ⟨rfl, b10⟩))
  have b910 : Below w5.heap.size w5 w10 := below_then (Below.trans (Below.refl _ _).drew b9) b10
  have H10 := Lib.hid (below_then H5.out b910)
  clear b9 b10 b910 o9
  go_wp2_with fail
  go_ret
  exact ⟨rfl, H10.out⟩
end Go.Proofs.Ytkipkincggajcaa
