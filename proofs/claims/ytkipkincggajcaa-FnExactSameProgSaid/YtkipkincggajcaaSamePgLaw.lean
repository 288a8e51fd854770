/- The reference's SameProg, and the law over SameProg. -/
import Derived.Test.YtkipkincggajcaaSamePg
namespace Go.Proofs.Ytkipkincggajcaa
open Go.RowKit
set_option linter.unusedVariables false

theorem pg_eq {gs gs' ls ls' : List ByteArray} {ps ps' : List Pr} (h : (⟨gs, ls, ps⟩ : Pg) = ⟨gs', ls', ps'⟩) : gs = gs' ∧ ls = ls' ∧ ps = ps' := by injection h with a b c; exact ⟨a, b, c⟩
set_option maxHeartbeats 1600000 in
theorem spec_SameProg (p q : Pg) (x y : V3) (w : World) (hp : PgIs w x p) (hq : PgIs w y q) :
    Calls Try.prog 32 #[x.val p, y.val q] w fun e w' => e = .returned (.bool (decB (p = q))) ∧ Below w.heap.size w w' := by
  obtain ⟨gs, ls, ps⟩ := p
  obtain ⟨gs', ls', ps'⟩ := q
  obtain ⟨gA, gc, lA, lc, pA, pc⟩ := x
  obtain ⟨gA', gc', lA', lc', pA', pc'⟩ := y
  have HP := Lib.hid hp
  have HQ := Lib.hid hq
  have RW := Lib.hid hp.p3
  have RW' := Lib.hid hq.p3
  have a1 := hp.p1
  have a2 := hp.p2
  have a1' := hq.p1
  have a2' := hq.p2
  simp only at a1 a2 a1' a2' RW RW'
  unfold maxLen at a2 a2'
  unfold V3.val
  simp only
  clear hp hq
  by_cases c1 : gs = gs'
  case neg =>
    have d1 : decide (gs = gs') = false := decide_no c1
    have C := Lib.hid c1
    clear c1
    go_enter Try.func32, Try.ntmps32
    go_wp2_with fail
    refine (spec_l05SameNames _ _ gs gs' _ (HP.out.gs.below (by repeat' (first | exact Below.refl _ _ | exact Nat.le_refl _ | (refine Below.alloc ?_ ?_ _) | (refine Below.setCell ?_ ?_ _) | (refine Below.drew ?_) | (refine below_drewN ?_ _) | assumption | (simp; done) | (simp; omega)))) (HQ.out.gs.below (by repeat' (first | exact Below.refl _ _ | exact Nat.le_refl _ | (refine Below.alloc ?_ ?_ _) | (refine Below.setCell ?_ ?_ _) | (refine Below.drew ?_) | (refine below_drewN ?_ _) | assumption | (simp; done) | (simp; omega))))).mono ?_
    rintro e w1 ⟨rfl, q1⟩
    have B1 : Hid (Below w.heap.size w w1) := Lib.hid (Below.trans (by repeat' (first | exact Below.refl _ _ | exact Nat.le_refl _ | (refine Below.alloc ?_ ?_ _) | (refine Below.setCell ?_ ?_ _) | (refine Below.drew ?_) | (refine below_drewN ?_ _) | assumption | (simp; done) | (simp; omega))) (q1.below.mono (by simp; omega)))
    rw [d1]
    clear q1
    go_wp2_with fail
    go_ret
    exact ⟨ret_bool (decB_no (fun e => C.out (pg_eq e).1)).symm, B1.out⟩
  have d1 : decide (gs = gs') = true := decide_eq_true c1
  have C1 := Lib.hid c1
  clear c1
  by_cases c2 : ls = ls'
  case neg =>
    have d2 : decide (ls = ls') = false := decide_no c2
    have C := Lib.hid c2
    clear c2
    go_enter Try.func32, Try.ntmps32
    go_wp2_with fail
    refine (spec_l05SameNames _ _ gs gs' _ (HP.out.gs.below (by repeat' (first | exact Below.refl _ _ | exact Nat.le_refl _ | (refine Below.alloc ?_ ?_ _) | (refine Below.setCell ?_ ?_ _) | (refine Below.drew ?_) | (refine below_drewN ?_ _) | assumption | (simp; done) | (simp; omega)))) (HQ.out.gs.below (by repeat' (first | exact Below.refl _ _ | exact Nat.le_refl _ | (refine Below.alloc ?_ ?_ _) | (refine Below.setCell ?_ ?_ _) | (refine Below.drew ?_) | (refine below_drewN ?_ _) | assumption | (simp; done) | (simp; omega))))).mono ?_
    rintro e w1 ⟨rfl, q1⟩
    obtain ⟨n1, rfl⟩ := q1
    rw [d1]
    go_wp2_with fail
    refine (spec_l05SameNames _ _ ls ls' _ (HP.out.ls.below (by repeat' (first | exact Below.refl _ _ | exact Nat.le_refl _ | (refine Below.alloc ?_ ?_ _) | (refine Below.setCell ?_ ?_ _) | (refine Below.drew ?_) | (refine below_drewN ?_ _) | assumption | (simp; done) | (simp; omega)))) (HQ.out.ls.below (by repeat' (first | exact Below.refl _ _ | exact Nat.le_refl _ | (refine Below.alloc ?_ ?_ _) | (refine Below.setCell ?_ ?_ _) | (refine Below.drew ?_) | (refine below_drewN ?_ _) | assumption | (simp; done) | (simp; omega))))).mono ?_
    rintro e w2 ⟨rfl, q2⟩
    have B2 : Hid (Below w.heap.size w w2) := Lib.hid (Below.trans (by repeat' (first | exact Below.refl _ _ | exact Nat.le_refl _ | (refine Below.alloc ?_ ?_ _) | (refine Below.setCell ?_ ?_ _) | (refine Below.drew ?_) | (refine below_drewN ?_ _) | assumption | (simp; done) | (simp; omega))) (q2.below.mono (by simp; omega)))
    rw [d2]
    clear q2
    go_wp2_with fail
    go_ret
    exact ⟨ret_bool (decB_no (fun e => C.out (pg_eq e).2.1)).symm, B2.out⟩
  have d2 : decide (ls = ls') = true := decide_eq_true c2
  have C2 := Lib.hid c2
  clear c2
  by_cases c3 : ps.length = ps'.length
  case neg =>
    have d3 : ((ps.length : Int) != (ps'.length : Int)) = true := by simp; omega
    have C := Lib.hid c3
    clear c3
    go_enter Try.func32, Try.ntmps32
    go_wp2_with fail
    refine (spec_l05SameNames _ _ gs gs' _ (HP.out.gs.below (by repeat' (first | exact Below.refl _ _ | exact Nat.le_refl _ | (refine Below.alloc ?_ ?_ _) | (refine Below.setCell ?_ ?_ _) | (refine Below.drew ?_) | (refine below_drewN ?_ _) | assumption | (simp; done) | (simp; omega)))) (HQ.out.gs.below (by repeat' (first | exact Below.refl _ _ | exact Nat.le_refl _ | (refine Below.alloc ?_ ?_ _) | (refine Below.setCell ?_ ?_ _) | (refine Below.drew ?_) | (refine below_drewN ?_ _) | assumption | (simp; done) | (simp; omega))))).mono ?_
    rintro e w1 ⟨rfl, q1⟩
    obtain ⟨n1, rfl⟩ := q1
    rw [d1]
    go_wp2_with fail
    refine (spec_l05SameNames _ _ ls ls' _ (HP.out.ls.below (by repeat' (first | exact Below.refl _ _ | exact Nat.le_refl _ | (refine Below.alloc ?_ ?_ _) | (refine Below.setCell ?_ ?_ _) | (refine Below.drew ?_) | (refine below_drewN ?_ _) | assumption | (simp; done) | (simp; omega)))) (HQ.out.ls.below (by repeat' (first | exact Below.refl _ _ | exact Nat.le_refl _ | (refine Below.alloc ?_ ?_ _) | (refine Below.setCell ?_ ?_ _) | (refine Below.drew ?_) | (refine below_drewN ?_ _) | assumption | (simp; done) | (simp; omega))))).mono ?_
    rintro e w2 ⟨rfl, q2⟩
    obtain ⟨n2, rfl⟩ := q2
    rw [d2]
    go_wp2_with fail
    go_ret
    exact ⟨ret_bool (decB_no (fun e => C.out (by rw [(pg_eq e).2.2]))).symm, (by repeat' (first | exact Below.refl _ _ | exact Nat.le_refl _ | (refine Below.alloc ?_ ?_ _) | (refine Below.setCell ?_ ?_ _) | (refine Below.drew ?_) | (refine below_drewN ?_ _) | assumption | (simp; done) | (simp; omega)))⟩
  have d3 : ((ps.length : Int) != (ps'.length : Int)) = false := by simp [c3]
  have G := Lib.hid c3
  clear c3
  go_enter Try.func32, Try.ntmps32
  go_wp2_with fail
  refine (spec_l05SameNames _ _ gs gs' _ (HP.out.gs.below (by repeat' (first | exact Below.refl _ _ | exact Nat.le_refl _ | (refine Below.alloc ?_ ?_ _) | (refine Below.setCell ?_ ?_ _) | (refine Below.drew ?_) | (refine below_drewN ?_ _) | assumption | (simp; done) | (simp; omega)))) (HQ.out.gs.below (by repeat' (first | exact Below.refl _ _ | exact Nat.le_refl _ | (refine Below.alloc ?_ ?_ _) | (refine Below.setCell ?_ ?_ _) | (refine Below.drew ?_) | (refine below_drewN ?_ _) | assumption | (simp; done) | (simp; omega))))).mono ?_
  rintro e w1 ⟨rfl, q1⟩
  obtain ⟨n1, rfl⟩ := q1
  rw [d1]
  go_wp2_with fail
  refine (spec_l05SameNames _ _ ls ls' _ (HP.out.ls.below (by repeat' (first | exact Below.refl _ _ | exact Nat.le_refl _ | (refine Below.alloc ?_ ?_ _) | (refine Below.setCell ?_ ?_ _) | (refine Below.drew ?_) | (refine below_drewN ?_ _) | assumption | (simp; done) | (simp; omega)))) (HQ.out.ls.below (by repeat' (first | exact Below.refl _ _ | exact Nat.le_refl _ | (refine Below.alloc ?_ ?_ _) | (refine Below.setCell ?_ ?_ _) | (refine Below.drew ?_) | (refine below_drewN ?_ _) | assumption | (simp; done) | (simp; omega))))).mono ?_
  rintro e w2 ⟨rfl, q2⟩
  obtain ⟨n2, rfl⟩ := q2
  rw [d2]
  go_wp2_with fail
  go_loopw [5] (fun i wr => ∃ k : Nat, k ≤ ps.length ∧ i = .int .i64 k ∧ wr.cell? ⟨w.heap.size, 2, none⟩ = some (.slice pA ps.length pc) ∧ wr.cell? ⟨w.heap.size + 1, 2, none⟩ = some (.slice pA' ps'.length pc') ∧ Below w.heap.size w wr ∧ Hid (ps.take k = ps'.take k)) (fun i _ => ps.length - (intOf i).toNat)
  case atStart => exact ⟨0, Nat.zero_le _, rfl, by simp [go_sem], by simp [go_sem], (by repeat' (first | exact Below.refl _ _ | exact Nat.le_refl _ | (refine Below.alloc ?_ ?_ _) | (refine Below.setCell ?_ ?_ _) | (refine Below.drew ?_) | (refine below_drewN ?_ _) | assumption | (simp; done) | (simp; omega))), Lib.hid rfl⟩
  case round =>
    obtain ⟨j, hj, rfl, x2, y2, hb, HT⟩ := hrel
    have HB := Lib.hid hb
    clear hb
    by_cases hlt : j < ps.length
    case neg =>
      go_wp2_with fail
      go_ret
      have e : ps = ps' := by
        have := HT.out
        rwa [List.take_of_length_le (by omega), List.take_of_length_le (by rw [← G.out]; omega)] at this
      exact ⟨ret_bool (decB_yes (by rw [C1.out, C2.out, e])).symm, HB.out⟩
    have hlt' : j < ps'.length := by rw [← G.out]; exact hlt
    obtain ⟨b, off, x, rfl, d0, d1', hpr⟩ := rd_proc (RW.out.belowA HB.out) hlt
    obtain ⟨b', off', y, rfl, e0, e1, hqr⟩ := rd_proc (RW'.out.belowA HB.out) hlt'
    obtain ⟨p1, p2, p3, p4, p5, p6⟩ := hpr
    obtain ⟨q1, q2, q3, q4, q5, q6⟩ := hqr
    have T1 := Lib.hid p6
    have T2 := Lib.hid q6
    have NE := Lib.hid (And.intro p1 q1)
    rw [p2] at d1'
    rw [q2] at e1
    have h0k : (0 : Int) ≤ (j : Int) := by omega
    have h1k : (j : Int) < (ps.length : Int) := by omega
    have h2k : (j : Int) < (ps'.length : Int) := by omega
    have q := str_eq x.s y.s
    clear p1 p2 p3 p6 q1 q2 q3 q6
    by_cases c4 : x.s = y.s
    case neg =>
      rw [decide_no c4] at q
      have C := Lib.hid c4
      clear c4
      go_wp2_with fail
      go_quiet (fail)
      go_wp2_with fail
      go_ret
      exact ⟨ret_bool (decB_no (fun e => C.out (by have := (pg_eq e).2.2; rw [← NE.out.1, ← NE.out.2]; subst this; rfl))).symm, HB.out.trans ((Qt.of_drewN _ _).below.mono HB.out.size)⟩
    rw [decide_eq_true c4] at q
    have C4 := Lib.hid c4
    clear c4
    by_cases c5 : samesG ps[j].body ps'[j].body = true
    case neg =>
      have c5' := bool_no c5
      clear c5
      go_wp2_with fail
      refine wp_region_later (by kernel_rfl) (by kernel_rfl) ?_
      intro gw hgw hcw
      have HG := Lib.hid hgw
      have HC := Lib.hid hcw
      clear hgw hcw
      have x2' : ∀ n, (gw n).cell? ⟨w.heap.size, 2, none⟩ = some (.slice (some ⟨b, off, none⟩) ps.length pc) := fun n => cell_keep (HG.out n) x2
      have y2' : ∀ n, (gw n).cell? ⟨w.heap.size + 1, 2, none⟩ = some (.slice (some ⟨b', off', none⟩) ps'.length pc') := fun n => cell_keep (HG.out n) y2
      have f0 : ∀ n, (gw n).cell? ⟨b, off + j * 2, none⟩ = some (.string x.s) := fun n => cell_keep (HG.out n) d0
      have f1 : ∀ n, (gw n).cell? ⟨b, off + j * 2 + 1, none⟩ = some (.slice x.A ps[j].body.length x.c) := fun n => cell_keep (HG.out n) d1'
      have g0 : ∀ n, (gw n).cell? ⟨b', off' + j * 2, none⟩ = some (.string y.s) := fun n => cell_keep (HG.out n) e0
      have g1 : ∀ n, (gw n).cell? ⟨b', off' + j * 2 + 1, none⟩ = some (.slice y.A ps'[j].body.length y.c) := fun n => cell_keep (HG.out n) e1
      clear d0 d1' e0 e1 x2 y2
      repeat (go_big_quiet_step ((first | (go_at_call 84; exact later_bool HC c5' (spec_SameStmts _ _ x.A y.A x.c y.c _ (T1.out.belowA (HG.out _)) (T2.out.belowA (HG.out _)) p4 q4 p5 q5)))))
      refine wpQuiet_nil ?_
      intro _ hw'
      obtain ⟨nq, hw''⟩ := hw'
      subst hw''
      go_wp2_with fail
      go_ret
      exact ⟨ret_bool (decB_no (fun e => by have := (pg_eq e).2.2; subst this; rw [samesG_yes rfl] at c5'; cases c5')).symm, below_then HB.out (HG.out _)⟩
    have C5 := Lib.hid (samesG_true c5)
    go_wp2_with fail
    refine wp_region_later (by kernel_rfl) (by kernel_rfl) ?_
    intro gw hgw hcw
    have HG := Lib.hid hgw
    have HC := Lib.hid hcw
    clear hgw hcw
    have x2' : ∀ n, (gw n).cell? ⟨w.heap.size, 2, none⟩ = some (.slice (some ⟨b, off, none⟩) ps.length pc) := fun n => cell_keep (HG.out n) x2
    have y2' : ∀ n, (gw n).cell? ⟨w.heap.size + 1, 2, none⟩ = some (.slice (some ⟨b', off', none⟩) ps'.length pc') := fun n => cell_keep (HG.out n) y2
    have f0 : ∀ n, (gw n).cell? ⟨b, off + j * 2, none⟩ = some (.string x.s) := fun n => cell_keep (HG.out n) d0
    have f1 : ∀ n, (gw n).cell? ⟨b, off + j * 2 + 1, none⟩ = some (.slice x.A ps[j].body.length x.c) := fun n => cell_keep (HG.out n) d1'
    have g0 : ∀ n, (gw n).cell? ⟨b', off' + j * 2, none⟩ = some (.string y.s) := fun n => cell_keep (HG.out n) e0
    have g1 : ∀ n, (gw n).cell? ⟨b', off' + j * 2 + 1, none⟩ = some (.slice y.A ps'[j].body.length y.c) := fun n => cell_keep (HG.out n) e1
    have X2 := Lib.hid x2
    have Y2 := Lib.hid y2
    clear d0 d1' e0 e1 x2 y2
    repeat (go_big_quiet_step ((first | (go_at_call 84; exact later_bool HC c5 (spec_SameStmts _ _ x.A y.A x.c y.c _ (T1.out.belowA (HG.out _)) (T2.out.belowA (HG.out _)) p4 q4 p5 q5)))))
    refine wpQuiet_nil ?_
    intro _ hw'
    obtain ⟨nq, hw''⟩ := hw'
    subst hw''
    clear f0 f1 g0 g1 x2' y2'
    go_wp2_with fail
    go_roundw
    case rel =>
      refine ⟨j + 1, by omega, by go_num, cell_keep (HG.out _) X2.out, cell_keep (HG.out _) Y2.out, below_then HB.out (HG.out _), Lib.hid (take_eq_succ HT.out hlt hlt' ?_)⟩
      have n1 := NE.out.1.trans (C4.out.trans NE.out.2.symm)
      have n2 := C5.out
      generalize ps[j] = u at n1 n2 ⊢
      generalize ps'[j] = v at n1 n2 ⊢
      obtain ⟨un, ub⟩ := u
      obtain ⟨vn, vb⟩ := v
      simp only at n1 n2
      rw [n1, n2]
    case measure => simp [intOf]; omega
set_option maxHeartbeats 3200000 in
theorem law_SameProg (v : Value) (p : Pg) (v' : Value) (q : Pg) (w : World) (o : IsProg w v p) (o' : IsProg w v' q) :
    Calls Try.prog 5 #[v, v'] w fun e w' => e = .returned (.bool true) ∧ Below w.heap.size w w' := by
  obtain ⟨x, rfl, hp⟩ := o
  obtain ⟨y, rfl, hq⟩ := o'
  have HP := Lib.hid hp
  have HQ := Lib.hid hq
  clear hp hq
  unfold V3.val
  by_cases h1 : (1048576 : Int) - (totPg p : Int) < 0
  · have C1 := Lib.hid (cut0_neg h1)
    go_enter Try.func5, Try.ntmps5
    go_wp2_with fail
    refine (laws_szProg p x _ 1048576 (HP.out.belowA (by repeat' (first | exact Below.refl _ _ | exact Nat.le_refl _ | (refine Below.alloc ?_ ?_ _) | (refine Below.setCell ?_ ?_ _) | (refine Below.drew ?_) | (refine below_drewN ?_ _) | assumption | (simp; done) | (simp; omega)))) (by omega) (by omega)).mono ?_
    rintro e w1 ⟨rfl, b1⟩
    have B1 : Hid (Below w.heap.size w w1) := Lib.hid (Below.trans (by repeat' (first | exact Below.refl _ _ | exact Nat.le_refl _ | (refine Below.alloc ?_ ?_ _) | (refine Below.setCell ?_ ?_ _) | (refine Below.drew ?_) | (refine below_drewN ?_ _) | assumption | (simp; done) | (simp; omega))) (b1.mono (by simp; omega)))
    rw [C1.out]
    clear b1
    go_wp2_with fail
    go_ret
    exact ⟨rfl, B1.out⟩
  have C1 := Lib.hid (cut0_pos (n := (1048576 : Int) - (totPg p : Int)) (by omega))
  have htot : totPg p ≤ 1048576 := by omega
  have h1' : 0 ≤ (1048576 : Int) - (totPg p : Int) := by omega
  by_cases h2 : (1048576 : Int) - (totPg p : Int) - (totPg q : Int) < 0
  · have C2 := Lib.hid (cut0_neg h2)
    go_enter Try.func5, Try.ntmps5
    go_wp2_with fail
    refine (laws_szProg p x _ 1048576 (HP.out.belowA (by repeat' (first | exact Below.refl _ _ | exact Nat.le_refl _ | (refine Below.alloc ?_ ?_ _) | (refine Below.setCell ?_ ?_ _) | (refine Below.drew ?_) | (refine below_drewN ?_ _) | assumption | (simp; done) | (simp; omega)))) (by omega) (by omega)).mono ?_
    rintro e w1 ⟨rfl, b1⟩
    have H1 : Hid (Below w.heap.size w w1) := Lib.hid (Below.trans (by repeat' (first | exact Below.refl _ _ | exact Nat.le_refl _ | (refine Below.alloc ?_ ?_ _) | (refine Below.setCell ?_ ?_ _) | (refine Below.drew ?_) | (refine below_drewN ?_ _) | assumption | (simp; done) | (simp; omega))) (b1.mono (by simp; omega)))
    have BY1 : Hid (BoxB w1 (w.heap.size + 1) [.slice y.gA q.globals.length y.gc, .slice y.lA q.locks.length y.lc, .slice y.pA q.procs.length y.pc]) := Lib.hid (BoxB.below (BoxB.lit (by simp)) b1)
    rw [C1.out]
    clear b1
    have q0 := BY1.out 0 _ rfl
    have q1 := BY1.out 1 _ rfl
    have q2 := BY1.out 2 _ rfl
    go_wp2_with fail
    refine (laws_szProg q y _ _ (HQ.out.belowA H1.out) (by omega) (by omega)).mono ?_
    rintro e w2 ⟨rfl, b2⟩
    have B2 := Lib.hid (below_then H1.out b2)
    rw [C2.out]
    clear b2
    go_wp2_with fail
    go_ret
    exact ⟨rfl, B2.out⟩
  have C2 := Lib.hid (cut0_pos (n := (1048576 : Int) - (totPg p : Int) - (totPg q : Int)) (by omega))
  have htot' : totPg q ≤ 1048576 := by omega
  have h2' : 0 ≤ (1048576 : Int) - (totPg p : Int) - (totPg q : Int) := by omega
  have TP : Hid (∀ W, PgIs W x p → Calls Try.prog 33 #[.agg #[.slice x.gA p.globals.length x.gc, .slice x.lA p.locks.length x.lc, .slice x.pA p.procs.length x.pc]] W (RetQO W p)) := Lib.hid fun W h => laws_toProg p x W h htot
  have TQ : Hid (∀ W, PgIs W y q → Calls Try.prog 33 #[.agg #[.slice y.gA q.globals.length y.gc, .slice y.lA q.locks.length y.lc, .slice y.pA q.procs.length y.pc]] W (RetQO W q)) := Lib.hid fun W h => laws_toProg q y W h htot'
  go_enter Try.func5, Try.ntmps5
  go_wp2_with fail
  refine (laws_szProg p x _ 1048576 (HP.out.belowA (by repeat' (first | exact Below.refl _ _ | exact Nat.le_refl _ | (refine Below.alloc ?_ ?_ _) | (refine Below.setCell ?_ ?_ _) | (refine Below.drew ?_) | (refine below_drewN ?_ _) | assumption | (simp; done) | (simp; omega)))) (by omega) (by omega)).mono ?_
  rintro e w1 ⟨rfl, b1⟩
  have H1 : Hid (Below w.heap.size w w1) := Lib.hid (Below.trans (by repeat' (first | exact Below.refl _ _ | exact Nat.le_refl _ | (refine Below.alloc ?_ ?_ _) | (refine Below.setCell ?_ ?_ _) | (refine Below.drew ?_) | (refine below_drewN ?_ _) | assumption | (simp; done) | (simp; omega))) (b1.mono (by simp; omega)))
  have BX1 : Hid (BoxB w1 w.heap.size [.slice x.gA p.globals.length x.gc, .slice x.lA p.locks.length x.lc, .slice x.pA p.procs.length x.pc]) := Lib.hid (BoxB.below ((BoxB.lit rfl).below (by repeat' (first | exact Below.refl _ _ | exact Nat.le_refl _ | (refine Below.alloc ?_ ?_ _) | (refine Below.setCell ?_ ?_ _) | (refine Below.drew ?_) | (refine below_drewN ?_ _) | assumption | (simp; done) | (simp; omega)))) b1)
  have BY1 : Hid (BoxB w1 (w.heap.size + 1) [.slice y.gA q.globals.length y.gc, .slice y.lA q.locks.length y.lc, .slice y.pA q.procs.length y.pc]) := Lib.hid (BoxB.below (BoxB.lit (by simp)) b1)
  rw [C1.out]
  clear b1
  have q0 := BY1.out 0 _ rfl
  have q1 := BY1.out 1 _ rfl
  have q2 := BY1.out 2 _ rfl
  go_wp2_with fail
  refine (laws_szProg q y _ _ (HQ.out.belowA H1.out) (by omega) (by omega)).mono ?_
  rintro e w2 ⟨rfl, b2⟩
  have H2 := Lib.hid (below_then H1.out b2)
  have BX2 := Lib.hid (BX1.out.below b2)
  have BY2 := Lib.hid (BY1.out.below b2)
  rw [C2.out]
  clear b2 q0 q1 q2 BX1 BY1
  have p0 := BX2.out 0 _ rfl
  have p1 := BX2.out 1 _ rfl
  have p2 := BX2.out 2 _ rfl
  have q0 := BY2.out 0 _ rfl
  have q1 := BY2.out 1 _ rfl
  have q2 := BY2.out 2 _ rfl
  have T2 := Lib.hid (HP.out.belowA H2.out)
  have U2 := Lib.hid (HQ.out.belowA H2.out)
  go_wp2_with fail
  go_region_held3 (fun w' => w'.cell? ⟨w.heap.size, 0, none⟩ = some (.slice x.gA p.globals.length x.gc) ∧ w'.cell? ⟨w.heap.size, 1, none⟩ = some (.slice x.lA p.locks.length x.lc) ∧ w'.cell? ⟨w.heap.size, 2, none⟩ = some (.slice x.pA p.procs.length x.pc) ∧ w'.cell? ⟨w.heap.size + 1, 0, none⟩ = some (.slice y.gA q.globals.length y.gc) ∧ w'.cell? ⟨w.heap.size + 1, 1, none⟩ = some (.slice y.lA q.locks.length y.lc) ∧ w'.cell? ⟨w.heap.size + 1, 2, none⟩ = some (.slice y.pA q.procs.length y.pc))
    (first | go_keep | (go_split_ands; refine ⟨?_, ?_, ?_, ?_, ?_, ?_⟩ <;> first | exact cell_keep b5 (by assumption) | exact cell_keep b4 (by assumption) | exact cell_keep b3 (by assumption)))
    (first
      | (go_at_call 33; (with_reducible refine (TP.out _ (by exact T2.out.drew)).mono ?_); rintro e w3 ⟨x3, rfl, o3, b3⟩; unfold V3.val)
      | (go_at_call 33; (with_reducible refine (TQ.out _ (by exact U2.out.drew.belowA b3)).mono ?_); rintro e w4 ⟨x4, rfl, o4, b4⟩; unfold V3.val)
      | (go_at_call 32; refine (spec_SameProg p q x3 x4 _ (by exact o3.any.belowA b4) (by exact o4.any)).mono ?_; rintro e w5 ⟨rfl, b5⟩))
  have b25 : Below w2.heap.size w2 w5 := below_then (below_then (Below.trans (Below.refl _ _).drew b3) b4) b5
  have H5 := Lib.hid (below_then H2.out b25)
  have BX5 := Lib.hid (BX2.out.below b25)
  have BY5 := Lib.hid (BY2.out.below b25)
  clear b3 b4 b5 b25 o3 o4 p0 p1 p2 q0 q1 q2 BX2 BY2 H1 H2 T2 U2
  have p0 := BX5.out 0 _ rfl
  have p1 := BX5.out 1 _ rfl
  have p2 := BX5.out 2 _ rfl
  go_wp2_with fail
  refine (TP.out _ (HP.out.belowA H5.out)).mono ?_
  rintro e w6 ⟨x6, rfl, o6, b6⟩
  have O6 := Lib.hid o6
  have H6 := Lib.hid (below_then H5.out b6)
  have BX6 := Lib.hid (BX5.out.below b6)
  have BY6 := Lib.hid (BY5.out.below b6)
  have Z6 := Lib.hid b6.size
  clear b6 o6 p0 p1 p2 BX5 BY5
  have q0 := BY6.out 0 _ rfl
  have q1 := BY6.out 1 _ rfl
  have q2 := BY6.out 2 _ rfl
  have hzy : w.heap.size + 1 < w6.heap.size := cell_lt q0
  unfold V3.val
  go_wp2_with fail
  refine (TQ.out _ (HQ.out.belowA (H6.out.trans (Below.mono (by repeat' (first | exact Below.refl _ _ | exact Nat.le_refl _ | (refine Below.alloc ?_ ?_ _) | (refine Below.setCell ?_ ?_ _) | (refine Below.drew ?_) | (refine below_drewN ?_ _) | assumption | (simp; done) | (simp; omega))) H6.out.size)))).mono ?_
  rintro e w7 ⟨x7, rfl, o7, b7⟩
  have B67 : Below w6.heap.size w6 w7 := Below.trans (Below.alloc (Below.refl _ _) (Nat.le_refl _) _) (b7.mono (by simp))
  have O7 : Hid (PgO w7 (Made w5 w7) x7 q) := by
    obtain ⟨G, L, P, s1, s2, s3, r⟩ := o7
    have hz := B67.size
    have z6 := Z6.out
    exact Lib.hid ⟨G, L, P, (fun b h => ⟨by have := (s1 b h).1; simp at this; omega, (s1 b h).2⟩), (fun b h => ⟨by have := (s2 b h).1; simp at this; omega, (s2 b h).2⟩), (fun b h => ⟨by have := (s3 b h).1; simp at this; omega, (s3 b h).2⟩), r⟩
  have OX7 := Lib.hid (O6.out.belowO (fun b hb => hb.2) B67)
  have BA7 : Hid (BoxB w7 w6.heap.size [.slice x6.gA p.globals.length x6.gc, .slice x6.lA p.locks.length x6.lc, .slice x6.pA p.procs.length x6.pc]) := Lib.hid (BoxB.below (BoxB.lit rfl) b7)
  have H7 := Lib.hid (below_then H6.out B67)
  have BX7 := Lib.hid (BX6.out.below B67)
  have BY7 := Lib.hid (BY6.out.below B67)
  clear b7 o7 B67 q0 q1 q2 BX6 BY6 O6 H6
  have a0 := BA7.out 0 _ rfl
  have a1 := BA7.out 1 _ rfl
  have a2 := BA7.out 2 _ rfl
  have hza := cell_lt a0
  unfold V3.val
  go_wp2_with fail
  refine (impl_SameProg p q x6 x7 _ (Made w5 w6) (Made w5 w7) w5.heap.size ?_ ?_ (fun b h => h.1) (fun b h => h.1)).mono ?_
  · exact OX7.out.belowO (fun b hb => by have := hb.2; omega) (by repeat' (first | exact Below.refl _ _ | exact Nat.le_refl _ | (refine Below.alloc ?_ ?_ _) | (refine Below.setCell ?_ ?_ _) | (refine Below.drew ?_) | (refine below_drewN ?_ _) | assumption | (simp; done) | (simp; omega)))
  · exact O7.out.belowO (fun b hb => hb.2) (by repeat' (first | exact Below.refl _ _ | exact Nat.le_refl _ | (refine Below.alloc ?_ ?_ _) | (refine Below.setCell ?_ ?_ _) | (refine Below.drew ?_) | (refine below_drewN ?_ _) | assumption | (simp; done) | (simp; omega)))
  rintro e w8 ⟨rfl, b8⟩
  have B78 : Below w7.heap.size w7 w8 := Below.trans (Below.alloc (Below.refl _ _) (Nat.le_refl _) _) (b8.mono (by simp))
  have BB8 : Hid (BoxB w8 w7.heap.size [.slice x7.gA q.globals.length x7.gc, .slice x7.lA q.locks.length x7.lc, .slice x7.pA q.procs.length x7.pc]) := Lib.hid (BoxB.below (BoxB.lit rfl) b8)
  have BA8 := Lib.hid (BA7.out.below B78)
  have BX8 := Lib.hid (BX7.out.below B78)
  have BY8 := Lib.hid (BY7.out.below B78)
  have H8 := Lib.hid (below_then H7.out B78)
  have T8 := Lib.hid (OX7.out.any.belowA B78)
  have U8 := Lib.hid (O7.out.any.belowA B78)
  have hne : (decB (p = q) != decB (p = q)) = false := by simp
  have st : decB (p = p) = true := decB_yes rfl
  have st' : decB (q = q) = true := decB_yes rfl
  have P8 := Lib.hid (HP.out.belowA H8.out)
  clear b8 B78 BA7 BX7 BY7 H7 OX7 O7 a0 a1 a2
  have p0 := BX8.out 0 _ rfl
  have p1 := BX8.out 1 _ rfl
  have p2 := BX8.out 2 _ rfl
  have a0 := BA8.out 0 _ rfl
  have a1 := BA8.out 1 _ rfl
  have a2 := BA8.out 2 _ rfl
  go_wp2_with fail
  go_region_held3 (fun w' => w'.cell? ⟨w.heap.size, 0, none⟩ = some (.slice x.gA p.globals.length x.gc) ∧ w'.cell? ⟨w.heap.size, 1, none⟩ = some (.slice x.lA p.locks.length x.lc) ∧ w'.cell? ⟨w.heap.size, 2, none⟩ = some (.slice x.pA p.procs.length x.pc) ∧ w'.cell? ⟨w6.heap.size, 0, none⟩ = some (.slice x6.gA p.globals.length x6.gc) ∧ w'.cell? ⟨w6.heap.size, 1, none⟩ = some (.slice x6.lA p.locks.length x6.lc) ∧ w'.cell? ⟨w6.heap.size, 2, none⟩ = some (.slice x6.pA p.procs.length x6.pc))
    (first | go_keep | (go_split_ands; refine ⟨?_, ?_, ?_, ?_, ?_, ?_⟩ <;> first | exact cell_keep b10 (by assumption) | exact cell_keep b9 (by assumption)))
    (first
      | (go_at_call 33; (with_reducible refine (TP.out _ (by exact P8.out.drew)).mono ?_); rintro e w9 ⟨x9, rfl, o9, b9⟩; unfold V3.val)
      | (go_at_call 35; refine (laws_eqProg p p x6 x9 _ (by exact T8.out.drew.belowA b9) (by exact o9.any)).mono ?_; rintro e w10 ⟨rfl, b10⟩))
  have b810 : Below w8.heap.size w8 w10 := below_then (Below.trans (Below.refl _ _).drew b9) b10
  have H10 := Lib.hid (below_then H8.out b810)
  have BY10 := Lib.hid (BY8.out.below b810)
  have BB10 := Lib.hid (BB8.out.below b810)
  have U10 := Lib.hid (U8.out.belowA b810)
  have Q10 := Lib.hid (HQ.out.belowA H10.out)
  clear b9 b10 b810 o9 p0 p1 p2 a0 a1 a2 BX8 BY8 BA8 BB8 T8 U8 P8 H8
  have q0 := BY10.out 0 _ rfl
  have q1 := BY10.out 1 _ rfl
  have q2 := BY10.out 2 _ rfl
  have c0 := BB10.out 0 _ rfl
  have c1 := BB10.out 1 _ rfl
  have c2 := BB10.out 2 _ rfl
  go_wp2_with fail
  go_region_held3 (fun w' => w'.cell? ⟨w.heap.size + 1, 0, none⟩ = some (.slice y.gA q.globals.length y.gc) ∧ w'.cell? ⟨w.heap.size + 1, 1, none⟩ = some (.slice y.lA q.locks.length y.lc) ∧ w'.cell? ⟨w.heap.size + 1, 2, none⟩ = some (.slice y.pA q.procs.length y.pc) ∧ w'.cell? ⟨w7.heap.size, 0, none⟩ = some (.slice x7.gA q.globals.length x7.gc) ∧ w'.cell? ⟨w7.heap.size, 1, none⟩ = some (.slice x7.lA q.locks.length x7.lc) ∧ w'.cell? ⟨w7.heap.size, 2, none⟩ = some (.slice x7.pA q.procs.length x7.pc))
    (first | go_keep | (go_split_ands; refine ⟨?_, ?_, ?_, ?_, ?_, ?_⟩ <;> first | exact cell_keep b12 (by assumption) | exact cell_keep b11 (by assumption)))
    (first
      | (go_at_call 33; (with_reducible refine (TQ.out _ (by exact Q10.out.drew)).mono ?_); rintro e w11 ⟨x11, rfl, o11, b11⟩; unfold V3.val)
      | (go_at_call 35; refine (laws_eqProg q q x7 x11 _ (by exact U10.out.drew.belowA b11) (by exact o11.any)).mono ?_; rintro e w12 ⟨rfl, b12⟩))
  have b1012 : Below w10.heap.size w10 w12 := below_then (Below.trans (Below.refl _ _).drew b11) b12
  have H12 := Lib.hid (below_then H10.out b1012)
  clear b11 b12 b1012 o11
  go_wp2_with fail
  go_ret
  exact ⟨rfl, H12.out⟩
end Go.Proofs.Ytkipkincggajcaa
