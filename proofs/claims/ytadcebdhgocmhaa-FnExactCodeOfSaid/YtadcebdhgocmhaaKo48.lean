/- Lemmas for the row. -/
import Derived.Test.YtadcebdhgocmhaaKo8
import Derived.Test.YtadcebdhgocmhaaKo19
namespace Go.Proofs.Ytadcebdhgocmhaa
open Go.RowKit
set_option linter.unusedVariables false
noncomputable def decP (p : Prop) : Bool := @decide p (Classical.propDecidable _)
theorem decP_yes {p : Prop} (h : p) : decP p = true := by unfold decP; exact @decide_eq_true _ (Classical.propDecidable _) h
theorem decP_no {p : Prop} (h : ¬ p) : decP p = false := by unfold decP; exact @decide_eq_false _ (Classical.propDecidable _) h
theorem decP_true {p : Prop} (h : decP p = true) : p := Classical.byContradiction fun hn => by rw [decP_no hn] at h; cases h
theorem decP_false {p : Prop} (h : decP p = false) : ¬ p := fun e => by rw [decP_yes e] at h; cases h
set_option maxHeartbeats 800000 in
theorem laws_eqIns (p q : Ic) (x y : V7) (w : World) (hp : IcIs AnyB w x p) (hq : IcIs AnyB w y q) :
    Calls Try.prog 87 #[.agg #[.int .i64 x.op, .int .i64 x.arg, .int .i64 x.k, .int .i64 x.n, .string x.s, .slice x.A x.m x.c, .int .i64 x.to], .agg #[.int .i64 y.op, .int .i64 y.arg, .int .i64 y.k, .int .i64 y.n, .string y.s, .slice y.A y.m y.c, .int .i64 y.to]] w fun e w' => e = .returned (.bool (decP (p = q))) ∧ Below w.heap.size w w' := by
  obtain ⟨op, arg, t, t6⟩ := p
  obtain ⟨op', arg', t', to'⟩ := q
  obtain ⟨xo, xa, k, n, s, A, m, c, xt⟩ := x
  obtain ⟨yo, ya, k', n', s', A', m', c', yt⟩ := y
  obtain ⟨rfl, rfl, rfl, _, _, _, ht⟩ := hp
  obtain ⟨rfl, rfl, rfl, _, _, _, ht'⟩ := hq
  simp only [V7.term] at *
  have HT := Lib.hid ht
  have HT' := Lib.hid ht'
  clear ht ht'
  by_cases c1 : xo = yo
  case neg =>
    have q1 : (xo != yo) = true := by simpa using c1
    have C := Lib.hid c1
    clear c1
    go_enter Try.func87, Try.ntmps87
    go_wp2_with fail
    go_ret
    exact ⟨ret_bool (decP_no (fun e => C.out (by injection e))).symm, (by repeat' first|exact .refl _ _|exact Nat.le_refl _|refine .alloc ?_ ?_ _|refine .setCell ?_ ?_ _|refine .drew ?_|refine below_drewN ?_ _|assumption|(simp;done)|(simp;omega))⟩
  have q1 : (xo != yo) = false := by simp [c1]
  by_cases c2 : xa = ya
  case neg =>
    have q2 : (xa != ya) = true := by simpa using c2
    have C := Lib.hid c2
    clear c1 c2
    go_enter Try.func87, Try.ntmps87
    go_wp2_with fail
    go_ret
    exact ⟨ret_bool (decP_no (fun e => C.out (by injection e))).symm, (by repeat' first|exact .refl _ _|exact Nat.le_refl _|refine .alloc ?_ ?_ _|refine .setCell ?_ ?_ _|refine .drew ?_|refine below_drewN ?_ _|assumption|(simp;done)|(simp;omega))⟩
  have q2 : (xa != ya) = false := by simp [c2]
  have C := Lib.hid (And.intro c1 c2)
  clear c1 c2
  go_enter Try.func87, Try.ntmps87
  go_wp2_with fail
  refine (laws_eqTerm t t' k n s A m c k' n' s' A' m' c' _ (HT.out.belowA (by repeat' first|exact .refl _ _|exact Nat.le_refl _|refine .alloc ?_ ?_ _|refine .setCell ?_ ?_ _|refine .drew ?_|refine below_drewN ?_ _|assumption|(simp;done)|(simp;omega))) (HT'.out.belowA (by repeat' first|exact .refl _ _|exact Nat.le_refl _|refine .alloc ?_ ?_ _|refine .setCell ?_ ?_ _|refine .drew ?_|refine below_drewN ?_ _|assumption|(simp;done)|(simp;omega)))).mono ?_
  rintro e w1 ⟨rfl, b1⟩
  have H1 : Hid (Below w.heap.size w w1) := Lib.hid (Below.trans (by repeat' first|exact .refl _ _|exact Nat.le_refl _|refine .alloc ?_ ?_ _|refine .setCell ?_ ?_ _|refine .drew ?_|refine below_drewN ?_ _|assumption|(simp;done)|(simp;omega)) (b1.mono (by simp; omega)))
  obtain ⟨hcell, hfree⟩ := old_cells b1
  simp only [World.size_alloc] at hcell hfree
  clear b1
  by_cases c3 : t = t'
  case neg =>
    rw [sameB_no c3]
    have C3 := Lib.hid c3
    clear c3
    go_wp2_with fail
    go_ret
    exact ⟨ret_bool (decP_no (fun e => C3.out (by injection e))).symm, H1.out⟩
  rw [sameB_yes c3]
  have C3 := Lib.hid c3
  clear c3
  by_cases c4 : xt = yt
  · have q4 : (xt != yt) = false := by simp [c4]
    have C4 := Lib.hid c4
    clear c4
    go_wp2_with fail
    go_ret
    exact ⟨ret_bool (decP_yes (by rw [C.out.1, C.out.2, C3.out, C4.out])).symm, H1.out⟩
  · have q4 : (xt != yt) = true := by simpa using c4
    have C4 := Lib.hid c4
    clear c4
    go_wp2_with fail
    go_ret
    exact ⟨ret_bool (decP_no (fun e => C4.out (by injection e))).symm, H1.out⟩
set_option maxHeartbeats 1600000 in
theorem laws_eqInsS (ss tt : List Ic) (A A' : Option Addr) (c c' : Nat) (w : World) (row : IcRow AnyB w A ss) (row' : IcRow AnyB w A' tt) (hl : ss.length ≤ c) (hl' : tt.length ≤ c') (hc : c ≤ maxLen) (hc' : c' ≤ maxLen) :
    Calls Try.prog 53 #[.slice A ss.length c, .slice A' tt.length c'] w fun e w' => e = .returned (.bool (decP (ss = tt))) ∧ Below w.heap.size w w' := by
  unfold maxLen at hc hc'
  have RW := Lib.hid row
  have RW' := Lib.hid row'
  clear row row'
  by_cases g0 : ss.length = tt.length
  case neg =>
    have g1 : ((ss.length : Int) != (tt.length : Int)) = true := by simp; omega
    have G := Lib.hid g0
    clear g0
    go_enter Try.func53, Try.ntmps53
    go_wp2_with fail
    go_ret
    exact ⟨ret_bool (decP_no (fun e => G.out (by rw [e]))).symm, Below.refl _ _⟩
  have g1 : ((ss.length : Int) != (tt.length : Int)) = false := by simp [g0]
  have G := Lib.hid g0
  clear g0
  go_enter Try.func53, Try.ntmps53
  go_wp2_with fail
  go_loopw [5] (fun i wr => ∃ k : Nat, k ≤ ss.length ∧ i = .int .i64 k ∧ Below w.heap.size w wr ∧ Hid (ss.take k = tt.take k)) (fun i _ => ss.length - (intOf i).toNat)
  case atStart => exact ⟨0, Nat.zero_le _, rfl, Below.refl _ _, Lib.hid rfl⟩
  case round =>
    obtain ⟨j, hj, rfl, hb, HT⟩ := hrel
    have HB := Lib.hid hb
    clear hb
    by_cases hlt : j < ss.length
    case neg =>
      go_wp2_with fail
      go_ret
      have e : ss = tt := by
        have := HT.out
        rwa [List.take_of_length_le (by omega), List.take_of_length_le (by rw [← G.out]; omega)] at this
      exact ⟨ret_bool (decP_yes e).symm, HB.out⟩
    have hlt' : j < tt.length := by rw [← G.out]; exact hlt
    obtain ⟨b, off, x, rfl, _, ⟨d0, d1, d2, d3, d4, d5, d6⟩, hp⟩ := rd_ins (RW.out.belowA HB.out) hlt
    obtain ⟨b', off', y, rfl, _, ⟨e0, e1, e2, e3, e4, e5, e6⟩, hq⟩ := rd_ins (RW'.out.belowA HB.out) hlt'
    have T1 := Lib.hid hp
    have T2 := Lib.hid hq
    have h0k : (0 : Int) ≤ (j : Int) := by omega
    have h1k : (j : Int) < (ss.length : Int) := by omega
    have h2k : (j : Int) < (tt.length : Int) := by omega
    clear hp hq
    by_cases e : decP (ss[j] = tt[j]) = true
    · have E := Lib.hid (decP_true e)
      go_wp2_with fail
      refine wp_region_later (by kernel_rfl) (by kernel_rfl) ?_
      intro gw hgw hcw
      have HG := Lib.hid hgw
      have HC := Lib.hid hcw
      clear hgw hcw
      have d0' : ∀ n, (gw n).cell? ⟨b, off + j * 7, none⟩ = some (.int .i64 x.op) := fun n => cell_keep (HG.out n) d0
      have d1' : ∀ n, (gw n).cell? ⟨b, off + j * 7 + 1, none⟩ = some (.int .i64 x.arg) := fun n => cell_keep (HG.out n) d1
      have d2' : ∀ n, (gw n).cell? ⟨b, off + j * 7 + 2, none⟩ = some (.int .i64 x.k) := fun n => cell_keep (HG.out n) d2
      have d3' : ∀ n, (gw n).cell? ⟨b, off + j * 7 + 3, none⟩ = some (.int .i64 x.n) := fun n => cell_keep (HG.out n) d3
      have d4' : ∀ n, (gw n).cell? ⟨b, off + j * 7 + 4, none⟩ = some (.string x.s) := fun n => cell_keep (HG.out n) d4
      have d5' : ∀ n, (gw n).cell? ⟨b, off + j * 7 + 5, none⟩ = some (.slice x.A x.m x.c) := fun n => cell_keep (HG.out n) d5
      have d6' : ∀ n, (gw n).cell? ⟨b, off + j * 7 + 6, none⟩ = some (.int .i64 x.to) := fun n => cell_keep (HG.out n) d6
      have e0' : ∀ n, (gw n).cell? ⟨b', off' + j * 7, none⟩ = some (.int .i64 y.op) := fun n => cell_keep (HG.out n) e0
      have e1' : ∀ n, (gw n).cell? ⟨b', off' + j * 7 + 1, none⟩ = some (.int .i64 y.arg) := fun n => cell_keep (HG.out n) e1
      have e2' : ∀ n, (gw n).cell? ⟨b', off' + j * 7 + 2, none⟩ = some (.int .i64 y.k) := fun n => cell_keep (HG.out n) e2
      have e3' : ∀ n, (gw n).cell? ⟨b', off' + j * 7 + 3, none⟩ = some (.int .i64 y.n) := fun n => cell_keep (HG.out n) e3
      have e4' : ∀ n, (gw n).cell? ⟨b', off' + j * 7 + 4, none⟩ = some (.string y.s) := fun n => cell_keep (HG.out n) e4
      have e5' : ∀ n, (gw n).cell? ⟨b', off' + j * 7 + 5, none⟩ = some (.slice y.A y.m y.c) := fun n => cell_keep (HG.out n) e5
      have e6' : ∀ n, (gw n).cell? ⟨b', off' + j * 7 + 6, none⟩ = some (.int .i64 y.to) := fun n => cell_keep (HG.out n) e6
      clear d0 d1 d2 d3 d4 d5 d6 e0 e1 e2 e3 e4 e5 e6
      repeat (go_big_quiet_step ((first | (go_at_call 87; exact later_bool HC e (laws_eqIns _ _ x y _ (T1.out.belowA (HG.out _)) (T2.out.belowA (HG.out _)))))))
      refine wpQuiet_nil ?_
      intro _ hw'
      obtain ⟨nq, hw''⟩ := hw'
      subst hw''
      go_wp2_with fail
      go_roundw
      case rel => exact ⟨j + 1, by omega, by go_num, below_then HB.out (HG.out _), Lib.hid (take_eq_succ HT.out hlt hlt' E.out)⟩
      case measure => simp [intOf]; omega
    · have e' := bool_no e
      have E := Lib.hid (decP_false e')
      clear e
      go_wp2_with fail
      refine wp_region_later (by kernel_rfl) (by kernel_rfl) ?_
      intro gw hgw hcw
      have HG := Lib.hid hgw
      have HC := Lib.hid hcw
      clear hgw hcw
      have d0' : ∀ n, (gw n).cell? ⟨b, off + j * 7, none⟩ = some (.int .i64 x.op) := fun n => cell_keep (HG.out n) d0
      have d1' : ∀ n, (gw n).cell? ⟨b, off + j * 7 + 1, none⟩ = some (.int .i64 x.arg) := fun n => cell_keep (HG.out n) d1
      have d2' : ∀ n, (gw n).cell? ⟨b, off + j * 7 + 2, none⟩ = some (.int .i64 x.k) := fun n => cell_keep (HG.out n) d2
      have d3' : ∀ n, (gw n).cell? ⟨b, off + j * 7 + 3, none⟩ = some (.int .i64 x.n) := fun n => cell_keep (HG.out n) d3
      have d4' : ∀ n, (gw n).cell? ⟨b, off + j * 7 + 4, none⟩ = some (.string x.s) := fun n => cell_keep (HG.out n) d4
      have d5' : ∀ n, (gw n).cell? ⟨b, off + j * 7 + 5, none⟩ = some (.slice x.A x.m x.c) := fun n => cell_keep (HG.out n) d5
      have d6' : ∀ n, (gw n).cell? ⟨b, off + j * 7 + 6, none⟩ = some (.int .i64 x.to) := fun n => cell_keep (HG.out n) d6
      have e0' : ∀ n, (gw n).cell? ⟨b', off' + j * 7, none⟩ = some (.int .i64 y.op) := fun n => cell_keep (HG.out n) e0
      have e1' : ∀ n, (gw n).cell? ⟨b', off' + j * 7 + 1, none⟩ = some (.int .i64 y.arg) := fun n => cell_keep (HG.out n) e1
      have e2' : ∀ n, (gw n).cell? ⟨b', off' + j * 7 + 2, none⟩ = some (.int .i64 y.k) := fun n => cell_keep (HG.out n) e2
      have e3' : ∀ n, (gw n).cell? ⟨b', off' + j * 7 + 3, none⟩ = some (.int .i64 y.n) := fun n => cell_keep (HG.out n) e3
      have e4' : ∀ n, (gw n).cell? ⟨b', off' + j * 7 + 4, none⟩ = some (.string y.s) := fun n => cell_keep (HG.out n) e4
      have e5' : ∀ n, (gw n).cell? ⟨b', off' + j * 7 + 5, none⟩ = some (.slice y.A y.m y.c) := fun n => cell_keep (HG.out n) e5
      have e6' : ∀ n, (gw n).cell? ⟨b', off' + j * 7 + 6, none⟩ = some (.int .i64 y.to) := fun n => cell_keep (HG.out n) e6
      clear d0 d1 d2 d3 d4 d5 d6 e0 e1 e2 e3 e4 e5 e6
      repeat (go_big_quiet_step ((first | (go_at_call 87; exact later_bool HC e' (laws_eqIns _ _ x y _ (T1.out.belowA (HG.out _)) (T2.out.belowA (HG.out _)))))))
      refine wpQuiet_nil ?_
      intro _ hw'
      obtain ⟨nq, hw''⟩ := hw'
      subst hw''
      go_wp2_with fail
      go_ret
      exact ⟨ret_bool (decP_no (fun q => E.out (by subst q; rfl))).symm, below_then HB.out (HG.out _)⟩
set_option maxHeartbeats 1600000 in
theorem laws_eqCode (p q : Cd) (x y : V5) (w : World) (hp : CdIs w x p) (hq : CdIs w y q) :
    Calls Try.prog 19 #[x.val p, y.val q] w fun e w' => e = .returned (.bool (decP (p = q))) ∧ Below w.heap.size w w' := by
  obtain ⟨gs, ls, ps, es, is⟩ := p
  obtain ⟨gs', ls', ps', es', is'⟩ := q
  obtain ⟨gA, gc, lA, lc, pA, pc, eA, ec, iA, ic⟩ := x
  obtain ⟨gA', gc', lA', lc', pA', pc', eA', ec', iA', ic'⟩ := y
  have HP := Lib.hid hp
  have HQ := Lib.hid hq
  have a1 := hp.i1
  have a2 := hp.i2
  have a1' := hq.i1
  have a2' := hq.i2
  simp only at a1 a2 a1' a2'
  unfold V5.val
  simp only
  clear hp hq
  by_cases c1 : gs = gs'
  case neg =>
    have d1 : decide (gs = gs') = false := decide_no c1
    have C := Lib.hid c1
    clear c1
    go_enter Try.func19, Try.ntmps19
    go_wp2_with fail
    refine (laws_eqStringS _ _ gs gs' _ (HP.out.gs.below (by repeat' first|exact .refl _ _|exact Nat.le_refl _|refine .alloc ?_ ?_ _|refine .setCell ?_ ?_ _|refine .drew ?_|refine below_drewN ?_ _|assumption|(simp;done)|(simp;omega))) (HQ.out.gs.below (by repeat' first|exact .refl _ _|exact Nat.le_refl _|refine .alloc ?_ ?_ _|refine .setCell ?_ ?_ _|refine .drew ?_|refine below_drewN ?_ _|assumption|(simp;done)|(simp;omega)))).mono ?_
    rintro e w1 ⟨rfl, q1⟩
    have B1 : Hid (Below w.heap.size w w1) := Lib.hid (Below.trans (by repeat' first|exact .refl _ _|exact Nat.le_refl _|refine .alloc ?_ ?_ _|refine .setCell ?_ ?_ _|refine .drew ?_|refine below_drewN ?_ _|assumption|(simp;done)|(simp;omega)) (q1.below.mono (by simp; omega)))
    rw [d1]
    clear q1
    go_wp2_with fail
    go_ret
    exact ⟨ret_bool (decP_no (fun e => C.out (by injection e))).symm, B1.out⟩
  have d1 : decide (gs = gs') = true := decide_eq_true c1
  have C1 := Lib.hid c1
  clear c1
  by_cases c2 : ls = ls'
  case neg =>
    have d2 : decide (ls = ls') = false := decide_no c2
    have C := Lib.hid c2
    clear c2
    go_enter Try.func19, Try.ntmps19
    go_wp2_with fail
    refine (laws_eqStringS _ _ gs gs' _ (HP.out.gs.below (by repeat' first|exact .refl _ _|exact Nat.le_refl _|refine .alloc ?_ ?_ _|refine .setCell ?_ ?_ _|refine .drew ?_|refine below_drewN ?_ _|assumption|(simp;done)|(simp;omega))) (HQ.out.gs.below (by repeat' first|exact .refl _ _|exact Nat.le_refl _|refine .alloc ?_ ?_ _|refine .setCell ?_ ?_ _|refine .drew ?_|refine below_drewN ?_ _|assumption|(simp;done)|(simp;omega)))).mono ?_
    rintro e w1 ⟨rfl, q1⟩
    obtain ⟨n1, rfl⟩ := q1
    rw [d1]
    go_wp2_with fail
    refine (laws_eqStringS _ _ ls ls' _ (HP.out.ls.below (by repeat' first|exact .refl _ _|exact Nat.le_refl _|refine .alloc ?_ ?_ _|refine .setCell ?_ ?_ _|refine .drew ?_|refine below_drewN ?_ _|assumption|(simp;done)|(simp;omega))) (HQ.out.ls.below (by repeat' first|exact .refl _ _|exact Nat.le_refl _|refine .alloc ?_ ?_ _|refine .setCell ?_ ?_ _|refine .drew ?_|refine below_drewN ?_ _|assumption|(simp;done)|(simp;omega)))).mono ?_
    rintro e w1 ⟨rfl, q2⟩
    have B1 : Hid (Below w.heap.size w w1) := Lib.hid (Below.trans (by repeat' first|exact .refl _ _|exact Nat.le_refl _|refine .alloc ?_ ?_ _|refine .setCell ?_ ?_ _|refine .drew ?_|refine below_drewN ?_ _|assumption|(simp;done)|(simp;omega)) (q2.below.mono (by simp; omega)))
    rw [d2]
    clear q2
    go_wp2_with fail
    go_ret
    exact ⟨ret_bool (decP_no (fun e => C.out (by injection e))).symm, B1.out⟩
  have d2 : decide (ls = ls') = true := decide_eq_true c2
  have C2 := Lib.hid c2
  clear c2
  by_cases c3 : ps = ps'
  case neg =>
    have d3 : decide (ps = ps') = false := decide_no c3
    have C := Lib.hid c3
    clear c3
    go_enter Try.func19, Try.ntmps19
    go_wp2_with fail
    refine (laws_eqStringS _ _ gs gs' _ (HP.out.gs.below (by repeat' first|exact .refl _ _|exact Nat.le_refl _|refine .alloc ?_ ?_ _|refine .setCell ?_ ?_ _|refine .drew ?_|refine below_drewN ?_ _|assumption|(simp;done)|(simp;omega))) (HQ.out.gs.below (by repeat' first|exact .refl _ _|exact Nat.le_refl _|refine .alloc ?_ ?_ _|refine .setCell ?_ ?_ _|refine .drew ?_|refine below_drewN ?_ _|assumption|(simp;done)|(simp;omega)))).mono ?_
    rintro e w1 ⟨rfl, q1⟩
    obtain ⟨n1, rfl⟩ := q1
    rw [d1]
    go_wp2_with fail
    refine (laws_eqStringS _ _ ls ls' _ (HP.out.ls.below (by repeat' first|exact .refl _ _|exact Nat.le_refl _|refine .alloc ?_ ?_ _|refine .setCell ?_ ?_ _|refine .drew ?_|refine below_drewN ?_ _|assumption|(simp;done)|(simp;omega))) (HQ.out.ls.below (by repeat' first|exact .refl _ _|exact Nat.le_refl _|refine .alloc ?_ ?_ _|refine .setCell ?_ ?_ _|refine .drew ?_|refine below_drewN ?_ _|assumption|(simp;done)|(simp;omega)))).mono ?_
    rintro e w1 ⟨rfl, q2⟩
    obtain ⟨n2, rfl⟩ := q2
    rw [d2]
    go_wp2_with fail
    refine (laws_eqStringS _ _ ps ps' _ (HP.out.ps.below (by repeat' first|exact .refl _ _|exact Nat.le_refl _|refine .alloc ?_ ?_ _|refine .setCell ?_ ?_ _|refine .drew ?_|refine below_drewN ?_ _|assumption|(simp;done)|(simp;omega))) (HQ.out.ps.below (by repeat' first|exact .refl _ _|exact Nat.le_refl _|refine .alloc ?_ ?_ _|refine .setCell ?_ ?_ _|refine .drew ?_|refine below_drewN ?_ _|assumption|(simp;done)|(simp;omega)))).mono ?_
    rintro e w1 ⟨rfl, q3⟩
    have B1 : Hid (Below w.heap.size w w1) := Lib.hid (Below.trans (by repeat' first|exact .refl _ _|exact Nat.le_refl _|refine .alloc ?_ ?_ _|refine .setCell ?_ ?_ _|refine .drew ?_|refine below_drewN ?_ _|assumption|(simp;done)|(simp;omega)) (q3.below.mono (by simp; omega)))
    rw [d3]
    clear q3
    go_wp2_with fail
    go_ret
    exact ⟨ret_bool (decP_no (fun e => C.out (by injection e))).symm, B1.out⟩
  have d3 : decide (ps = ps') = true := decide_eq_true c3
  have C3 := Lib.hid c3
  clear c3
  by_cases c4 : es = es'
  case neg =>
    have d4 : decide (es = es') = false := decide_no c4
    have C := Lib.hid c4
    clear c4
    go_enter Try.func19, Try.ntmps19
    go_wp2_with fail
    refine (laws_eqStringS _ _ gs gs' _ (HP.out.gs.below (by repeat' first|exact .refl _ _|exact Nat.le_refl _|refine .alloc ?_ ?_ _|refine .setCell ?_ ?_ _|refine .drew ?_|refine below_drewN ?_ _|assumption|(simp;done)|(simp;omega))) (HQ.out.gs.below (by repeat' first|exact .refl _ _|exact Nat.le_refl _|refine .alloc ?_ ?_ _|refine .setCell ?_ ?_ _|refine .drew ?_|refine below_drewN ?_ _|assumption|(simp;done)|(simp;omega)))).mono ?_
    rintro e w1 ⟨rfl, q1⟩
    obtain ⟨n1, rfl⟩ := q1
    rw [d1]
    go_wp2_with fail
    refine (laws_eqStringS _ _ ls ls' _ (HP.out.ls.below (by repeat' first|exact .refl _ _|exact Nat.le_refl _|refine .alloc ?_ ?_ _|refine .setCell ?_ ?_ _|refine .drew ?_|refine below_drewN ?_ _|assumption|(simp;done)|(simp;omega))) (HQ.out.ls.below (by repeat' first|exact .refl _ _|exact Nat.le_refl _|refine .alloc ?_ ?_ _|refine .setCell ?_ ?_ _|refine .drew ?_|refine below_drewN ?_ _|assumption|(simp;done)|(simp;omega)))).mono ?_
    rintro e w1 ⟨rfl, q2⟩
    obtain ⟨n2, rfl⟩ := q2
    rw [d2]
    go_wp2_with fail
    refine (laws_eqStringS _ _ ps ps' _ (HP.out.ps.below (by repeat' first|exact .refl _ _|exact Nat.le_refl _|refine .alloc ?_ ?_ _|refine .setCell ?_ ?_ _|refine .drew ?_|refine below_drewN ?_ _|assumption|(simp;done)|(simp;omega))) (HQ.out.ps.below (by repeat' first|exact .refl _ _|exact Nat.le_refl _|refine .alloc ?_ ?_ _|refine .setCell ?_ ?_ _|refine .drew ?_|refine below_drewN ?_ _|assumption|(simp;done)|(simp;omega)))).mono ?_
    rintro e w1 ⟨rfl, q3⟩
    obtain ⟨n3, rfl⟩ := q3
    rw [d3]
    go_wp2_with fail
    refine (laws_eqIntS _ _ es es' _ (HP.out.es.below (by repeat' first|exact .refl _ _|exact Nat.le_refl _|refine .alloc ?_ ?_ _|refine .setCell ?_ ?_ _|refine .drew ?_|refine below_drewN ?_ _|assumption|(simp;done)|(simp;omega))) (HQ.out.es.below (by repeat' first|exact .refl _ _|exact Nat.le_refl _|refine .alloc ?_ ?_ _|refine .setCell ?_ ?_ _|refine .drew ?_|refine below_drewN ?_ _|assumption|(simp;done)|(simp;omega)))).mono ?_
    rintro e w1 ⟨rfl, q4⟩
    have B1 : Hid (Below w.heap.size w w1) := Lib.hid (Below.trans (by repeat' first|exact .refl _ _|exact Nat.le_refl _|refine .alloc ?_ ?_ _|refine .setCell ?_ ?_ _|refine .drew ?_|refine below_drewN ?_ _|assumption|(simp;done)|(simp;omega)) (q4.below.mono (by simp; omega)))
    rw [d4]
    clear q4
    go_wp2_with fail
    go_ret
    exact ⟨ret_bool (decP_no (fun e => C.out (by injection e))).symm, B1.out⟩
  have d4 : decide (es = es') = true := decide_eq_true c4
  have C4 := Lib.hid c4
  clear c4
  go_enter Try.func19, Try.ntmps19
  go_wp2_with fail
  refine (laws_eqStringS _ _ gs gs' _ (HP.out.gs.below (by repeat' first|exact .refl _ _|exact Nat.le_refl _|refine .alloc ?_ ?_ _|refine .setCell ?_ ?_ _|refine .drew ?_|refine below_drewN ?_ _|assumption|(simp;done)|(simp;omega))) (HQ.out.gs.below (by repeat' first|exact .refl _ _|exact Nat.le_refl _|refine .alloc ?_ ?_ _|refine .setCell ?_ ?_ _|refine .drew ?_|refine below_drewN ?_ _|assumption|(simp;done)|(simp;omega)))).mono ?_
  rintro e w1 ⟨rfl, q1⟩
  obtain ⟨n1, rfl⟩ := q1
  rw [d1]
  go_wp2_with fail
  refine (laws_eqStringS _ _ ls ls' _ (HP.out.ls.below (by repeat' first|exact .refl _ _|exact Nat.le_refl _|refine .alloc ?_ ?_ _|refine .setCell ?_ ?_ _|refine .drew ?_|refine below_drewN ?_ _|assumption|(simp;done)|(simp;omega))) (HQ.out.ls.below (by repeat' first|exact .refl _ _|exact Nat.le_refl _|refine .alloc ?_ ?_ _|refine .setCell ?_ ?_ _|refine .drew ?_|refine below_drewN ?_ _|assumption|(simp;done)|(simp;omega)))).mono ?_
  rintro e w1 ⟨rfl, q2⟩
  obtain ⟨n2, rfl⟩ := q2
  rw [d2]
  go_wp2_with fail
  refine (laws_eqStringS _ _ ps ps' _ (HP.out.ps.below (by repeat' first|exact .refl _ _|exact Nat.le_refl _|refine .alloc ?_ ?_ _|refine .setCell ?_ ?_ _|refine .drew ?_|refine below_drewN ?_ _|assumption|(simp;done)|(simp;omega))) (HQ.out.ps.below (by repeat' first|exact .refl _ _|exact Nat.le_refl _|refine .alloc ?_ ?_ _|refine .setCell ?_ ?_ _|refine .drew ?_|refine below_drewN ?_ _|assumption|(simp;done)|(simp;omega)))).mono ?_
  rintro e w1 ⟨rfl, q3⟩
  obtain ⟨n3, rfl⟩ := q3
  rw [d3]
  go_wp2_with fail
  refine (laws_eqIntS _ _ es es' _ (HP.out.es.below (by repeat' first|exact .refl _ _|exact Nat.le_refl _|refine .alloc ?_ ?_ _|refine .setCell ?_ ?_ _|refine .drew ?_|refine below_drewN ?_ _|assumption|(simp;done)|(simp;omega))) (HQ.out.es.below (by repeat' first|exact .refl _ _|exact Nat.le_refl _|refine .alloc ?_ ?_ _|refine .setCell ?_ ?_ _|refine .drew ?_|refine below_drewN ?_ _|assumption|(simp;done)|(simp;omega)))).mono ?_
  rintro e w1 ⟨rfl, q4⟩
  obtain ⟨n4, rfl⟩ := q4
  rw [d4]
  go_wp2_with fail
  refine (laws_eqInsS is is' iA iA' ic ic' _ (HP.out.i3.belowA (by repeat' first|exact .refl _ _|exact Nat.le_refl _|refine .alloc ?_ ?_ _|refine .setCell ?_ ?_ _|refine .drew ?_|refine below_drewN ?_ _|assumption|(simp;done)|(simp;omega))) (HQ.out.i3.belowA (by repeat' first|exact .refl _ _|exact Nat.le_refl _|refine .alloc ?_ ?_ _|refine .setCell ?_ ?_ _|refine .drew ?_|refine below_drewN ?_ _|assumption|(simp;done)|(simp;omega))) a1 a1' a2 a2').mono ?_
  rintro e w3 ⟨rfl, b3⟩
  have B3 : Hid (Below w.heap.size w w3) := Lib.hid (Below.trans (by repeat' first|exact .refl _ _|exact Nat.le_refl _|refine .alloc ?_ ?_ _|refine .setCell ?_ ?_ _|refine .drew ?_|refine below_drewN ?_ _|assumption|(simp;done)|(simp;omega)) (b3.mono (by simp; omega)))
  clear b3
  by_cases c5 : is = is'
  · rw [decP_yes c5]
    have C5 := Lib.hid c5
    clear c5
    go_wp2_with fail
    go_ret
    exact ⟨ret_bool (decP_yes (by rw [C1.out, C2.out, C3.out, C4.out, C5.out])).symm, B3.out⟩
  · rw [decP_no c5]
    have C5 := Lib.hid c5
    clear c5
    go_wp2_with fail
    go_ret
    exact ⟨ret_bool (decP_no (fun e => C5.out (by injection e))).symm, B3.out⟩
end Go.Proofs.Ytadcebdhgocmhaa
