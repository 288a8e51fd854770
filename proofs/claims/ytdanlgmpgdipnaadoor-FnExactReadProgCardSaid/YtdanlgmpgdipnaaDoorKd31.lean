/- Several texts in one: Reads, PgEq. -/
import Derived.Test.YtdanlgmpgdipnaaDoorKd5
import Derived.Test.YtdanlgmpgdipnaaDoorKd13
import Derived.Test.YtdanlgmpgdipnaaDoorKd11
import Derived.Deep.QuietTactic
import Derived.BigQuiet
import Derived.Test.YtdanlgmpgdipnaaDoorKd30
namespace Go.Proofs.YtdanlgmpgdipnaaDoor
open Go.RowKit
set_option linter.unusedVariables false


theorem OwnStrs.alloc {w0 w : World} {v : Value} {ss : List ByteArray} (h : OwnStrs w0 w v ss) (o : Obj) : OwnStrs w0 (w.alloc o) v ss := Own.alloc h o
theorem OwnStrs.cons {w0 w : World} {v : Value} {ss : List ByteArray} (h : OwnStrs w0 w v ss) : ∃ A c, v = .slice A ss.length c ∧ ss.length ≤ c := Own.slice h

noncomputable def decB (p : Prop) : Bool := @decide p (Classical.propDecidable _)
theorem decB_yes {p : Prop} (h : p) : decB p = true := by unfold decB; exact @decide_eq_true _ (Classical.propDecidable _) h
theorem decB_no {p : Prop} (h : ¬ p) : decB p = false := by unfold decB; exact @decide_eq_false _ (Classical.propDecidable _) h
theorem decB_true {p : Prop} (h : decB p = true) : p := Classical.byContradiction fun hn => by rw [decB_no hn] at h; cases h
theorem decB_false {p : Prop} (h : decB p = false) : ¬ p := fun e => by rw [decB_yes e] at h; cases h
def BoxB (w : World) (g : Nat) (cs : List Value) : Prop := ∀ j u, cs[j]? = some u → w.cell? ⟨g, j, none⟩ = some u
theorem BoxB.below {w w' : World} {g : Nat} {cs : List Value} (h : BoxB w g cs) (hb : Below w.heap.size w w') : BoxB w' g cs := fun j u hu => cell_keep hb (h j u hu)
theorem BoxB.lit {w : World} {g : Nat} {cs : Array Value} {e : TypeId} (h : g = w.heap.size) : BoxB (w.alloc (.cells cs e)) g cs.toList := by
  subst h
  intro j u hu
  rw [World.cell?_alloc_new]
  simpa using hu
theorem BoxB.keepS {w w' : World} {g : Nat} {cs : List Value} {S : Nat → Prop} (h : BoxB w g cs) (hk : Keep S w w') (hS : S g) : BoxB w' g cs := fun j u hu => hk.cellEq hS (h j u hu)
set_option maxHeartbeats 800000 in
theorem laws_eqProc (p q : Pr) (x y : V2) (w : World) (hp : PrIs w x p) (hq : PrIs w y q) :
    Calls Tryd.prog 35 #[.agg #[.string x.s, .slice x.A x.m x.c], .agg #[.string y.s, .slice y.A y.m y.c]] w fun e w' => e = .returned (.bool (decB (p = q))) ∧ Below w.heap.size w w' := by
  obtain ⟨nm, body⟩ := p
  obtain ⟨nm', body'⟩ := q
  obtain ⟨s, A, m, c⟩ := x
  obtain ⟨s', A', m', c'⟩ := y
  obtain ⟨e1, e2, hs, hl, hc, row⟩ := hp
  obtain ⟨e1', e2', hs', hl', hc', row'⟩ := hq
  simp only at e1 e2 hs hl hc row e1' e2' hs' hl' hc' row'
  simp only
  subst e1 e2 e1' e2'
  have RW := Lib.hid row
  have RW' := Lib.hid row'
  have q := str_eq nm nm'
  clear row row' hs hs'
  by_cases c1 : nm = nm'
  case neg =>
    rw [decide_no c1] at q
    have C := Lib.hid c1
    clear c1
    go_enter Tryd.func35, Tryd.ntmps35
    go_wp2_with fail
    go_ret
    exact ⟨ret_bool (decB_no (fun e => C.out (by injection e))).symm, (by repeat' (first | exact Below.refl _ _ | exact Nat.le_refl _ | (refine Below.alloc ?_ ?_ _) | (refine Below.setCell ?_ ?_ _) | (refine Below.drew ?_) | (refine below_drewN ?_ _) | assumption | (simp; done) | (simp; omega)))⟩
  rw [decide_eq_true c1] at q
  have C := Lib.hid c1
  clear c1
  go_enter Tryd.func35, Tryd.ntmps35
  go_wp2_with fail
  refine (laws_eqStmtS body body' (fun g _ => laws_eqStmt g) A A' c c' _ (RW.out.belowA (by repeat' (first | exact Below.refl _ _ | exact Nat.le_refl _ | (refine Below.alloc ?_ ?_ _) | (refine Below.setCell ?_ ?_ _) | (refine Below.drew ?_) | (refine below_drewN ?_ _) | assumption | (simp; done) | (simp; omega)))) (RW'.out.belowA (by repeat' (first | exact Below.refl _ _ | exact Nat.le_refl _ | (refine Below.alloc ?_ ?_ _) | (refine Below.setCell ?_ ?_ _) | (refine Below.drew ?_) | (refine below_drewN ?_ _) | assumption | (simp; done) | (simp; omega)))) hl hl' hc hc').mono ?_
  rintro e w1 ⟨rfl, b1⟩
  have B1 : Hid (Below w.heap.size w w1) := Lib.hid (Below.trans (by repeat' (first | exact Below.refl _ _ | exact Nat.le_refl _ | (refine Below.alloc ?_ ?_ _) | (refine Below.setCell ?_ ?_ _) | (refine Below.drew ?_) | (refine below_drewN ?_ _) | assumption | (simp; done) | (simp; omega))) (b1.mono (by simp; omega)))
  clear b1
  by_cases c2 : body = body'
  · rw [samesG_yes c2]
    have C2 := Lib.hid c2
    clear c2
    go_wp2_with fail
    go_ret
    exact ⟨ret_bool (decB_yes (by rw [C.out, C2.out])).symm, B1.out⟩
  · rw [samesG_no c2]
    have C2 := Lib.hid c2
    clear c2
    go_wp2_with fail
    go_ret
    exact ⟨ret_bool (decB_no (fun e => C2.out (by injection e))).symm, B1.out⟩
set_option maxHeartbeats 800000 in
theorem laws_eqProcS (ss tt : List Pr) (A A' : Option Addr) (c c' : Nat) (w : World) (row : PrRow w A ss) (row' : PrRow w A' tt) (hl : ss.length ≤ c) (hl' : tt.length ≤ c') (hc : c ≤ maxLen) (hc' : c' ≤ maxLen) :
    Calls Tryd.prog 20 #[.slice A ss.length c, .slice A' tt.length c'] w fun e w' => e = .returned (.bool (decB (ss = tt))) ∧ Below w.heap.size w w' := by
  unfold maxLen at hc hc'
  have RW := Lib.hid row
  have RW' := Lib.hid row'
  clear row row'
  by_cases g0 : ss.length = tt.length
  case neg =>
    have g1 : ((ss.length : Int) != (tt.length : Int)) = true := by simp; omega
    have G := Lib.hid g0
    clear g0
    go_enter Tryd.func20, Tryd.ntmps20
    go_wp2_with fail
    go_ret
    exact ⟨ret_bool (decB_no (fun e => G.out (by rw [e]))).symm, Below.refl _ _⟩
  have g1 : ((ss.length : Int) != (tt.length : Int)) = false := by simp [g0]
  have G := Lib.hid g0
  clear g0
  go_enter Tryd.func20, Tryd.ntmps20
  go_wp2_with fail
  go_loopw [5] (fun i wr => ∃ k : Nat, k ≤ ss.length ∧ i = .int .i64 k ∧ Below w.heap.size w wr ∧ Hid (ss.take k = tt.take k)) (fun i _ => ss.length - (intOf i).toNat)
  case atStart => exact ⟨0, Nat.zero_le _, rfl, Below.refl _ _, Lib.hid rfl⟩
  case round =>
    obtain ⟨j, hj, rfl, hb, HT⟩ := hrel
    have HB := Lib.hid hb
    clear hb
    by_cases hlt : j < ss.length
    case neg =>
      go_wp2_with fail
      go_ret
      have e : ss = tt := by
        have := HT.out
        rwa [List.take_of_length_le (by omega), List.take_of_length_le (by rw [← G.out]; omega)] at this
      exact ⟨ret_bool (decB_yes e).symm, HB.out⟩
    have hlt' : j < tt.length := by rw [← G.out]; exact hlt
    obtain ⟨b, off, x, rfl, d0, d1, hp⟩ := rd_proc (RW.out.belowA HB.out) hlt
    obtain ⟨b', off', y, rfl, e0, e1, hq⟩ := rd_proc (RW'.out.belowA HB.out) hlt'
    have T1 := Lib.hid hp
    have T2 := Lib.hid hq
    have h0k : (0 : Int) ≤ (j : Int) := by omega
    have h1k : (j : Int) < (ss.length : Int) := by omega
    have h2k : (j : Int) < (tt.length : Int) := by omega
    clear hp hq
    by_cases e : decB (ss[j] = tt[j]) = true
    · have E := Lib.hid (decB_true e)
      go_wp2_with fail
      refine wp_region_later (by kernel_rfl) (by kernel_rfl) ?_
      intro gw hgw hcw
      have HG := Lib.hid hgw
      have HC := Lib.hid hcw
      clear hgw hcw
      have d0' : ∀ n, (gw n).cell? ⟨b, off + j * 2, none⟩ = some (.string x.s) := fun n => cell_keep (HG.out n) d0
      have d1' : ∀ n, (gw n).cell? ⟨b, off + j * 2 + 1, none⟩ = some (.slice x.A x.m x.c) := fun n => cell_keep (HG.out n) d1
      have e0' : ∀ n, (gw n).cell? ⟨b', off' + j * 2, none⟩ = some (.string y.s) := fun n => cell_keep (HG.out n) e0
      have e1' : ∀ n, (gw n).cell? ⟨b', off' + j * 2 + 1, none⟩ = some (.slice y.A y.m y.c) := fun n => cell_keep (HG.out n) e1
      clear d0 d1 e0 e1
      repeat (go_big_quiet_step ((first | (go_at_call 35; exact later_bool HC e (laws_eqProc _ _ x y _ (T1.out.belowA (HG.out _)) (T2.out.belowA (HG.out _)))))))
      refine wpQuiet_nil ?_
      intro _ hw'
      obtain ⟨nq, hw''⟩ := hw'
      subst hw''
      go_wp2_with fail
      go_roundw
      case rel => exact ⟨j + 1, by omega, by go_num, below_then HB.out (HG.out _), Lib.hid (take_eq_succ HT.out hlt hlt' E.out)⟩
      case measure => simp [intOf]; omega
    · have e' := bool_no e
      have E := Lib.hid (decB_false e')
      clear e
      go_wp2_with fail
      refine wp_region_later (by kernel_rfl) (by kernel_rfl) ?_
      intro gw hgw hcw
      have HG := Lib.hid hgw
      have HC := Lib.hid hcw
      clear hgw hcw
      have d0' : ∀ n, (gw n).cell? ⟨b, off + j * 2, none⟩ = some (.string x.s) := fun n => cell_keep (HG.out n) d0
      have d1' : ∀ n, (gw n).cell? ⟨b, off + j * 2 + 1, none⟩ = some (.slice x.A x.m x.c) := fun n => cell_keep (HG.out n) d1
      have e0' : ∀ n, (gw n).cell? ⟨b', off' + j * 2, none⟩ = some (.string y.s) := fun n => cell_keep (HG.out n) e0
      have e1' : ∀ n, (gw n).cell? ⟨b', off' + j * 2 + 1, none⟩ = some (.slice y.A y.m y.c) := fun n => cell_keep (HG.out n) e1
      clear d0 d1 e0 e1
      repeat (go_big_quiet_step ((first | (go_at_call 35; exact later_bool HC e' (laws_eqProc _ _ x y _ (T1.out.belowA (HG.out _)) (T2.out.belowA (HG.out _)))))))
      refine wpQuiet_nil ?_
      intro _ hw'
      obtain ⟨nq, hw''⟩ := hw'
      subst hw''
      go_wp2_with fail
      go_ret
      exact ⟨ret_bool (decB_no (fun q => E.out (by subst q; rfl))).symm, below_then HB.out (HG.out _)⟩
set_option maxHeartbeats 800000 in
theorem laws_eqProg (p q : Pg) (x y : V3) (w : World) (hp : PgIs w x p) (hq : PgIs w y q) :
    Calls Tryd.prog 6 #[x.val p, y.val q] w fun e w' => e = .returned (.bool (decB (p = q))) ∧ Below w.heap.size w w' := by
  obtain ⟨gs, ls, ps⟩ := p
  obtain ⟨gs', ls', ps'⟩ := q
  obtain ⟨gA, gc, lA, lc, pA, pc⟩ := x
  obtain ⟨gA', gc', lA', lc', pA', pc'⟩ := y
  have HP := Lib.hid hp
  have HQ := Lib.hid hq
  have a1 := hp.p1
  have a2 := hp.p2
  have a1' := hq.p1
  have a2' := hq.p2
  simp only at a1 a2 a1' a2'
  unfold V3.val
  simp only
  clear hp hq
  by_cases c1 : gs = gs'
  case neg =>
    have d1 : decide (gs = gs') = false := decide_no c1
    have C := Lib.hid c1
    clear c1
    go_enter Tryd.func6, Tryd.ntmps6
    go_wp2_with fail
    refine (laws_eqStringS _ _ gs gs' _ (HP.out.gs.below (by repeat' (first | exact Below.refl _ _ | exact Nat.le_refl _ | (refine Below.alloc ?_ ?_ _) | (refine Below.setCell ?_ ?_ _) | (refine Below.drew ?_) | (refine below_drewN ?_ _) | assumption | (simp; done) | (simp; omega)))) (HQ.out.gs.below (by repeat' (first | exact Below.refl _ _ | exact Nat.le_refl _ | (refine Below.alloc ?_ ?_ _) | (refine Below.setCell ?_ ?_ _) | (refine Below.drew ?_) | (refine below_drewN ?_ _) | assumption | (simp; done) | (simp; omega))))).mono ?_
    rintro e w1 ⟨rfl, q1⟩
    have B1 : Hid (Below w.heap.size w w1) := Lib.hid (Below.trans (by repeat' (first | exact Below.refl _ _ | exact Nat.le_refl _ | (refine Below.alloc ?_ ?_ _) | (refine Below.setCell ?_ ?_ _) | (refine Below.drew ?_) | (refine below_drewN ?_ _) | assumption | (simp; done) | (simp; omega))) (q1.below.mono (by simp; omega)))
    rw [d1]
    clear q1
    go_wp2_with fail
    go_ret
    exact ⟨ret_bool (decB_no (fun e => C.out (by injection e))).symm, B1.out⟩
  have d1 : decide (gs = gs') = true := decide_eq_true c1
  have C1 := Lib.hid c1
  clear c1
  by_cases c2 : ls = ls'
  case neg =>
    have d2 : decide (ls = ls') = false := decide_no c2
    have C := Lib.hid c2
    clear c2
    go_enter Tryd.func6, Tryd.ntmps6
    go_wp2_with fail
    refine (laws_eqStringS _ _ gs gs' _ (HP.out.gs.below (by repeat' (first | exact Below.refl _ _ | exact Nat.le_refl _ | (refine Below.alloc ?_ ?_ _) | (refine Below.setCell ?_ ?_ _) | (refine Below.drew ?_) | (refine below_drewN ?_ _) | assumption | (simp; done) | (simp; omega)))) (HQ.out.gs.below (by repeat' (first | exact Below.refl _ _ | exact Nat.le_refl _ | (refine Below.alloc ?_ ?_ _) | (refine Below.setCell ?_ ?_ _) | (refine Below.drew ?_) | (refine below_drewN ?_ _) | assumption | (simp; done) | (simp; omega))))).mono ?_
    rintro e w1 ⟨rfl, q1⟩
    obtain ⟨n1, rfl⟩ := q1
    rw [d1]
    go_wp2_with fail
    refine (laws_eqStringS _ _ ls ls' _ (HP.out.ls.below (by repeat' (first | exact Below.refl _ _ | exact Nat.le_refl _ | (refine Below.alloc ?_ ?_ _) | (refine Below.setCell ?_ ?_ _) | (refine Below.drew ?_) | (refine below_drewN ?_ _) | assumption | (simp; done) | (simp; omega)))) (HQ.out.ls.below (by repeat' (first | exact Below.refl _ _ | exact Nat.le_refl _ | (refine Below.alloc ?_ ?_ _) | (refine Below.setCell ?_ ?_ _) | (refine Below.drew ?_) | (refine below_drewN ?_ _) | assumption | (simp; done) | (simp; omega))))).mono ?_
    rintro e w2 ⟨rfl, q2⟩
    have B2 : Hid (Below w.heap.size w w2) := Lib.hid (Below.trans (by repeat' (first | exact Below.refl _ _ | exact Nat.le_refl _ | (refine Below.alloc ?_ ?_ _) | (refine Below.setCell ?_ ?_ _) | (refine Below.drew ?_) | (refine below_drewN ?_ _) | assumption | (simp; done) | (simp; omega))) (q2.below.mono (by simp; omega)))
    rw [d2]
    clear q2
    go_wp2_with fail
    go_ret
    exact ⟨ret_bool (decB_no (fun e => C.out (by injection e))).symm, B2.out⟩
  have d2 : decide (ls = ls') = true := decide_eq_true c2
  have C2 := Lib.hid c2
  clear c2
  go_enter Tryd.func6, Tryd.ntmps6
  go_wp2_with fail
  refine (laws_eqStringS _ _ gs gs' _ (HP.out.gs.below (by repeat' (first | exact Below.refl _ _ | exact Nat.le_refl _ | (refine Below.alloc ?_ ?_ _) | (refine Below.setCell ?_ ?_ _) | (refine Below.drew ?_) | (refine below_drewN ?_ _) | assumption | (simp; done) | (simp; omega)))) (HQ.out.gs.below (by repeat' (first | exact Below.refl _ _ | exact Nat.le_refl _ | (refine Below.alloc ?_ ?_ _) | (refine Below.setCell ?_ ?_ _) | (refine Below.drew ?_) | (refine below_drewN ?_ _) | assumption | (simp; done) | (simp; omega))))).mono ?_
  rintro e w1 ⟨rfl, q1⟩
  obtain ⟨n1, rfl⟩ := q1
  rw [d1]
  go_wp2_with fail
  refine (laws_eqStringS _ _ ls ls' _ (HP.out.ls.below (by repeat' (first | exact Below.refl _ _ | exact Nat.le_refl _ | (refine Below.alloc ?_ ?_ _) | (refine Below.setCell ?_ ?_ _) | (refine Below.drew ?_) | (refine below_drewN ?_ _) | assumption | (simp; done) | (simp; omega)))) (HQ.out.ls.below (by repeat' (first | exact Below.refl _ _ | exact Nat.le_refl _ | (refine Below.alloc ?_ ?_ _) | (refine Below.setCell ?_ ?_ _) | (refine Below.drew ?_) | (refine below_drewN ?_ _) | assumption | (simp; done) | (simp; omega))))).mono ?_
  rintro e w2 ⟨rfl, q2⟩
  obtain ⟨n2, rfl⟩ := q2
  rw [d2]
  go_wp2_with fail
  refine (laws_eqProcS ps ps' pA pA' pc pc' _ (HP.out.p3.belowA (by repeat' (first | exact Below.refl _ _ | exact Nat.le_refl _ | (refine Below.alloc ?_ ?_ _) | (refine Below.setCell ?_ ?_ _) | (refine Below.drew ?_) | (refine below_drewN ?_ _) | assumption | (simp; done) | (simp; omega)))) (HQ.out.p3.belowA (by repeat' (first | exact Below.refl _ _ | exact Nat.le_refl _ | (refine Below.alloc ?_ ?_ _) | (refine Below.setCell ?_ ?_ _) | (refine Below.drew ?_) | (refine below_drewN ?_ _) | assumption | (simp; done) | (simp; omega)))) a1 a1' a2 a2').mono ?_
  rintro e w3 ⟨rfl, b3⟩
  have B3 : Hid (Below w.heap.size w w3) := Lib.hid (Below.trans (by repeat' (first | exact Below.refl _ _ | exact Nat.le_refl _ | (refine Below.alloc ?_ ?_ _) | (refine Below.setCell ?_ ?_ _) | (refine Below.drew ?_) | (refine below_drewN ?_ _) | assumption | (simp; done) | (simp; omega))) (b3.mono (by simp; omega)))
  clear b3
  by_cases c3 : ps = ps'
  · rw [decB_yes c3]
    have C3 := Lib.hid c3
    clear c3
    go_wp2_with fail
    go_ret
    exact ⟨ret_bool (decB_yes (by rw [C1.out, C2.out, C3.out])).symm, B3.out⟩
  · rw [decB_no c3]
    have C3 := Lib.hid c3
    clear c3
    go_wp2_with fail
    go_ret
    exact ⟨ret_bool (decB_no (fun e => C3.out (by injection e))).symm, B3.out⟩
end Go.Proofs.YtdanlgmpgdipnaaDoor
