/- Comparing programs in the reference and in the program. -/
import Derived.Test.YtkipkincggajcaaPgEq
import Derived.Test.YtkipkincggajcaaSameSt
namespace Go.Proofs.Ytkipkincggajcaa
open Go.RowKit
set_option linter.unusedVariables false

set_option maxHeartbeats 400000 in
theorem spec_l05SameNames (v u : Value) (ss tt : List ByteArray) (w : World) (h : IsStrs w v ss) (h' : IsStrs w u tt) :
    Calls Try.prog 83 #[v, u] w fun e w' => e = .returned (.bool (decide (ss = tt))) ∧ Qt w w' := by
  obtain ⟨A, c, rfl, h2, h3, rd⟩ := h
  obtain ⟨A', c', rfl, h2', h3', rd'⟩ := h'
  unfold maxLen at h3 h3'
  have RD := Lib.hid rd
  have RD' := Lib.hid rd'
  clear rd rd'
  by_cases g0 : ss.length = tt.length
  case neg =>
    have g1 : ((ss.length : Int) != (tt.length : Int)) = true := by simp; omega
    have G := Lib.hid g0
    clear g0
    go_enter Try.func83, Try.ntmps83
    go_wp2_with fail
    go_ret
    exact ⟨ret_bool (decide_no (fun e => G.out (by rw [e]))).symm, Qt.refl _⟩
  have g1 : ((ss.length : Int) != (tt.length : Int)) = false := by simp [g0]
  have G := Lib.hid g0
  clear g0
  go_enter Try.func83, Try.ntmps83
  go_wp2_with fail
  go_loopw [5] (fun i wr => ∃ k : Nat, k ≤ ss.length ∧ i = .int .i64 k ∧ Hid (Qt w wr) ∧ Hid (ss.take k = tt.take k)) (fun i _ => ss.length - (intOf i).toNat)
  case atStart => exact ⟨0, Nat.zero_le _, rfl, Lib.hid (Qt.refl _), Lib.hid rfl⟩
  case round =>
    obtain ⟨k, hk, rfl, HQ, HT⟩ := hrel
    by_cases hlt : k < ss.length
    case neg =>
      go_wp2_with fail
      go_ret
      have e : ss = tt := by
        have := HT.out
        rwa [List.take_of_length_le (by omega), List.take_of_length_le (by rw [← G.out]; omega)] at this
      exact ⟨ret_bool (decide_eq_true e).symm, HQ.out⟩
    have hlt' : k < tt.length := by rw [← G.out]; exact hlt
    obtain ⟨b, off, rfl, hc0⟩ := rd_str (RD.out.below HQ.out.below) hlt
    obtain ⟨b', off', rfl, hd0⟩ := rd_str (RD'.out.below HQ.out.below) hlt'
    have h0k : (0 : Int) ≤ (k : Int) := by omega
    have h1k : (k : Int) < (ss.length : Int) := by omega
    have h2k : (k : Int) < (tt.length : Int) := by omega
    have q := str_eq ss[k] tt[k]
    by_cases e : ss[k] = tt[k]
    · have HE := Lib.hid e
      rw [decide_eq_true e] at q
      clear e
      go_wp2_with fail
      go_quiet (fail)
      go_wp2_with fail
      go_roundw
      case rel => exact ⟨k + 1, by omega, by go_num, Lib.hid (HQ.out.trans (Qt.of_drewN _ _)), Lib.hid (take_eq_succ HT.out hlt hlt' HE.out)⟩
      case measure => simp [intOf]; omega
    · have HE := Lib.hid e
      rw [decide_no e] at q
      clear e
      go_wp2_with fail
      go_quiet (fail)
      go_wp2_with fail
      go_ret
      exact ⟨ret_bool (decide_no (fun e => HE.out (by subst e; rfl))).symm, HQ.out.trans (Qt.of_drewN _ _)⟩
set_option maxHeartbeats 400000 in
theorem slices_EqualS (v u : Value) (ss tt : List ByteArray) (w : World) (h : IsStrs w v ss) (h' : IsStrs w u tt) :
    Calls Try.prog 87 #[v, u] w fun e w' => e = .returned (.bool (decide (ss = tt))) ∧ Qt w w' := by
  obtain ⟨A, c, rfl, h2, h3, rd⟩ := h
  obtain ⟨A', c', rfl, h2', h3', rd'⟩ := h'
  unfold maxLen at h3 h3'
  have RD := Lib.hid rd
  have RD' := Lib.hid rd'
  clear rd rd'
  by_cases g0 : ss.length = tt.length
  case neg =>
    have g1 : ((ss.length : Int) != (tt.length : Int)) = true := by simp; omega
    have G := Lib.hid g0
    clear g0
    go_enter Try.func87, Try.ntmps87
    go_wp2_with fail
    go_ret
    exact ⟨ret_bool (decide_no (fun e => G.out (by rw [e]))).symm, Qt.refl _⟩
  have g1 : ((ss.length : Int) != (tt.length : Int)) = false := by simp [g0]
  have G := Lib.hid g0
  clear g0
  go_enter Try.func87, Try.ntmps87
  go_wp2_with fail
  go_loopw [13] (fun i wr => ∃ k : Nat, k ≤ ss.length ∧ i = .int .i64 k ∧ Hid (Qt w wr) ∧ Hid (ss.take k = tt.take k)) (fun i _ => ss.length - (intOf i).toNat)
  case atStart => exact ⟨0, Nat.zero_le _, rfl, Lib.hid (Qt.refl _), Lib.hid rfl⟩
  case round =>
    obtain ⟨k, hk, rfl, HQ, HT⟩ := hrel
    by_cases hlt : k < ss.length
    case neg =>
      go_wp2_with fail
      go_ret
      have e : ss = tt := by
        have := HT.out
        rwa [List.take_of_length_le (by omega), List.take_of_length_le (by rw [← G.out]; omega)] at this
      exact ⟨ret_bool (decide_eq_true e).symm, HQ.out⟩
    have hlt' : k < tt.length := by rw [← G.out]; exact hlt
    obtain ⟨b, off, rfl, hc0⟩ := rd_str (RD.out.below HQ.out.below) hlt
    obtain ⟨b', off', rfl, hd0⟩ := rd_str (RD'.out.below HQ.out.below) hlt'
    have h0k : (0 : Int) ≤ (k : Int) := by omega
    have h1k : (k : Int) < (ss.length : Int) := by omega
    have h2k : (k : Int) < (tt.length : Int) := by omega
    have q := str_eq ss[k] tt[k]
    by_cases e : ss[k] = tt[k]
    · have HE := Lib.hid e
      rw [decide_eq_true e] at q
      clear e
      go_wp2_with fail
      go_quiet (fail)
      go_wp2_with fail
      go_roundw
      case rel => exact ⟨k + 1, by omega, by go_num, Lib.hid (HQ.out.trans (Qt.of_drewN _ _)), Lib.hid (take_eq_succ HT.out hlt hlt' HE.out)⟩
      case measure => simp [intOf]; omega
    · have HE := Lib.hid e
      rw [decide_no e] at q
      clear e
      go_wp2_with fail
      go_quiet (fail)
      go_wp2_with fail
      go_ret
      exact ⟨ret_bool (decide_no (fun e => HE.out (by subst e; rfl))).symm, HQ.out.trans (Qt.of_drewN _ _)⟩
/-- procedures whose statements lie in blocks made since lo -/
def PrIsF (lo : Nat) (w : World) (x : V2) (p : Pr) : Prop := p.name = x.s ∧ x.m = p.body.length ∧ p.body.length ≤ x.c ∧ x.c ≤ maxLen ∧ StRow (Fr lo w) w x.A p.body
def PrRowF (lo : Nat) (w : World) (A : Option Addr) (l : List Pr) : Prop := ∃ xs : List V2, xs.length = l.length ∧ Rd w 2 A xs.length (xs.flatMap V2.cells) ∧ ∀ i (h : i < l.length) (h' : i < xs.length), PrIsF lo w xs[i] l[i]
theorem PrIsF.belowF {lo : Nat} {w w' : World} {x : V2} {p : Pr} (h : PrIsF lo w x p) (hb : Below w.heap.size w w') : PrIsF lo w' x p := ⟨h.1, h.2.1, h.2.2.1, h.2.2.2.1, h.2.2.2.2.belowF hb⟩
theorem PrRowF.belowF {lo : Nat} {w w' : World} {A : Option Addr} {l : List Pr} (h : PrRowF lo w A l) (hb : Below w.heap.size w w') : PrRowF lo w' A l := by
  obtain ⟨xs, h1, rd, hx⟩ := h
  exact ⟨xs, h1, rd.below hb, fun i h h' => (hx i h h').belowF hb⟩
theorem rd_procF {lo : Nat} {w : World} {A : Option Addr} {l : List Pr} (row : PrRowF lo w A l) {k : Nat} (hk : k < l.length) :
    ∃ b off x, A = some ⟨b, off, none⟩ ∧ w.cell? ⟨b, off + k * 2, none⟩ = some (.string x.s) ∧ w.cell? ⟨b, off + k * 2 + 1, none⟩ = some (.slice x.A x.m x.c) ∧ PrIsF lo w x l[k] := by
  obtain ⟨xs, hl, rd, hx⟩ := row
  have hk' : k < xs.length := by omega
  obtain ⟨b, off, e, hc⟩ := rd_flat v2_len rd hk'
  exact ⟨b, off, xs[k], e, hc 0 _ (by decide) rfl, hc 1 _ (by decide) rfl, hx k hk hk'⟩
theorem PrRowO.fr {w : World} {F : Nat → Prop} {lo : Nat} {A : Option Addr} {l : List Pr} (h : PrRowO w F A l) (hF : ∀ b, F b → lo ≤ b) : PrRowF lo w A l := by
  obtain ⟨cs, G, row, hx⟩ := h
  obtain ⟨xs, hl, hxs⟩ := list_of l.length (fun i (x : V2) => (cs.drop (i * 2)).take 2 = x.cells ∧ ∀ h : i < l.length, PrIsF lo w x l[i]) (fun i hi => by obtain ⟨x, e, a1, a2, a3, a4, a5, r⟩ := hx i hi; exact ⟨x, e, fun _ => ⟨a1, a2, a4, a5, r.fr fun b hb => hF b (row.2.2.1 i b hi hb)⟩⟩)
  refine ⟨xs, hl, ?_, fun i h h' => (hxs i h').2 h⟩
  have e : cs = xs.flatMap V2.cells := by
    apply List.ext_getElem?
    intro j
    by_cases hj : j < l.length * 2
    · have e1 : j = (j / 2) * 2 + j % 2 := by omega
      have hk : j / 2 < xs.length := by omega
      rw [e1, chunk_get (by omega) (hxs _ hk).1, flat_get V2.cells 2 v2_len _ _ _ hk (by omega)]
    · rw [List.getElem?_eq_none (by rw [row.1.1]; omega), List.getElem?_eq_none (by rw [flat_length V2.cells 2 v2_len]; omega)]
  rw [← e, hl]; exact row.1
set_option maxHeartbeats 800000 in
theorem impl_sameProc (p q : Pr) (x y : V2) (w : World) (lo : Nat) (hp : PrIsF lo w x p) (hq : PrIsF lo w y q) :
    Calls Try.prog 89 #[.agg #[.string x.s, .slice x.A x.m x.c], .agg #[.string y.s, .slice y.A y.m y.c]] w fun e w' => e = .returned (.bool (decB (p = q))) ∧ Below w.heap.size w w' := by
  obtain ⟨nm, body⟩ := p
  obtain ⟨nm', body'⟩ := q
  obtain ⟨s, A, m, c⟩ := x
  obtain ⟨s', A', m', c'⟩ := y
  obtain ⟨e1, e2, hl, hc, row⟩ := hp
  obtain ⟨e1', e2', hl', hc', row'⟩ := hq
  simp only at e1 e2 hl hc row e1' e2' hl' hc' row'
  simp only
  subst e1 e2 e1' e2'
  have RW := Lib.hid row
  have RW' := Lib.hid row'
  have q := str_eq nm nm'
  clear row row'
  by_cases c1 : nm = nm'
  case neg =>
    rw [decide_no c1] at q
    have C := Lib.hid c1
    clear c1
    go_enter Try.func89, Try.ntmps89
    go_wp2_with fail
    go_ret
    exact ⟨ret_bool (decB_no (fun e => C.out (by injection e))).symm, (by repeat' (first | exact Below.refl _ _ | exact Nat.le_refl _ | (refine Below.alloc ?_ ?_ _) | (refine Below.setCell ?_ ?_ _) | (refine Below.drew ?_) | (refine below_drewN ?_ _) | assumption | (simp; done) | (simp; omega)))⟩
  rw [decide_eq_true c1] at q
  have C := Lib.hid c1
  clear c1
  go_enter Try.func89, Try.ntmps89
  go_wp2_with fail
  refine (impl_SameStmts body body' A A' c c' _ lo (RW.out.belowF (by repeat' (first | exact Below.refl _ _ | exact Nat.le_refl _ | (refine Below.alloc ?_ ?_ _) | (refine Below.setCell ?_ ?_ _) | (refine Below.drew ?_) | (refine below_drewN ?_ _) | assumption | (simp; done) | (simp; omega)))) (RW'.out.belowF (by repeat' (first | exact Below.refl _ _ | exact Nat.le_refl _ | (refine Below.alloc ?_ ?_ _) | (refine Below.setCell ?_ ?_ _) | (refine Below.drew ?_) | (refine below_drewN ?_ _) | assumption | (simp; done) | (simp; omega)))) hl hl' hc hc').mono ?_
  rintro e w1 ⟨rfl, b1⟩
  have B1 : Hid (Below w.heap.size w w1) := Lib.hid (Below.trans (by repeat' (first | exact Below.refl _ _ | exact Nat.le_refl _ | (refine Below.alloc ?_ ?_ _) | (refine Below.setCell ?_ ?_ _) | (refine Below.drew ?_) | (refine below_drewN ?_ _) | assumption | (simp; done) | (simp; omega))) (b1.mono (by simp; omega)))
  clear b1
  by_cases c2 : body = body'
  · rw [samesG_yes c2]
    have C2 := Lib.hid c2
    clear c2
    go_wp2_with fail
    go_ret
    exact ⟨ret_bool (decB_yes (by rw [C.out, C2.out])).symm, B1.out⟩
  · rw [samesG_no c2]
    have C2 := Lib.hid c2
    clear c2
    go_wp2_with fail
    go_ret
    exact ⟨ret_bool (decB_no (fun e => C2.out (by injection e))).symm, B1.out⟩
set_option maxHeartbeats 800000 in
theorem procs_EqualFunc (ss tt : List Pr) (A A' : Option Addr) (c c' : Nat) (w : World) (lo : Nat) (row : PrRowF lo w A ss) (row' : PrRowF lo w A' tt) (hl : ss.length ≤ c) (hl' : tt.length ≤ c') (hc : c ≤ maxLen) (hc' : c' ≤ maxLen) :
    Calls Try.prog 88 #[.slice A ss.length c, .slice A' tt.length c', .func (.func 89) #[] #[]] w fun e w' => e = .returned (.bool (decB (ss = tt))) ∧ Below w.heap.size w w' := by
  unfold maxLen at hc hc'
  have RW := Lib.hid row
  have RW' := Lib.hid row'
  clear row row'
  by_cases g0 : ss.length = tt.length
  case neg =>
    have g1 : ((ss.length : Int) != (tt.length : Int)) = true := by simp; omega
    have G := Lib.hid g0
    clear g0
    go_enter Try.func88, Try.ntmps88
    go_wp2_with fail
    go_ret
    exact ⟨ret_bool (decB_no (fun e => G.out (by rw [e]))).symm, Below.refl _ _⟩
  have g1 : ((ss.length : Int) != (tt.length : Int)) = false := by simp [g0]
  have G := Lib.hid g0
  clear g0
  go_enter Try.func88, Try.ntmps88
  go_wp2_with fail
  go_loopw [17] (fun i wr => ∃ j : Nat, j ≤ ss.length ∧ i = .int .i64 j ∧ Below w.heap.size w wr ∧ Hid (ss.take j = tt.take j)) (fun i _ => ss.length - (intOf i).toNat)
  case atStart => exact ⟨0, Nat.zero_le _, rfl, Below.refl _ _, Lib.hid rfl⟩
  case round =>
    obtain ⟨j, hj, rfl, hb, HT⟩ := hrel
    have HB := Lib.hid hb
    clear hb
    by_cases hlt : j < ss.length
    · have hlt' : j < tt.length := by rw [← G.out]; exact hlt
      obtain ⟨b, off, x, rfl, d0, d1, ht⟩ := rd_procF (RW.out.belowF HB.out) hlt
      obtain ⟨b', off', y, rfl, e0, e1, ht'⟩ := rd_procF (RW'.out.belowF HB.out) hlt'
      have T1 := Lib.hid ht
      have T2 := Lib.hid ht'
      clear ht ht'
      have lb : b < wr.heap.size := cell_lt d0
      have lb' : b' < wr.heap.size := cell_lt e0
      have h0k : (0 : Int) ≤ (j : Int) := by omega
      have h1k : (j : Int) < (ss.length : Int) := by omega
      have h2k : (j : Int) < (tt.length : Int) := by omega
      go_wp2_with fail
      refine (impl_sameProc ss[j] tt[j] x y _ lo ?_ ?_).mono ?_
      · exact T1.out.belowF (by repeat' (first | exact Below.refl _ _ | exact Nat.le_refl _ | (refine Below.alloc ?_ ?_ _) | (refine Below.setCell ?_ ?_ _) | (refine Below.drew ?_) | (refine below_drewN ?_ _) | assumption | (simp; done) | (simp; omega)))
      · exact T2.out.belowF (by repeat' (first | exact Below.refl _ _ | exact Nat.le_refl _ | (refine Below.alloc ?_ ?_ _) | (refine Below.setCell ?_ ?_ _) | (refine Below.drew ?_) | (refine below_drewN ?_ _) | assumption | (simp; done) | (simp; omega)))
      rintro e w1 ⟨rfl, b1⟩
      have B1 : Below w.heap.size w w1 := Below.trans (Below.trans HB.out (Below.mono (by repeat' (first | exact Below.refl _ _ | exact Nat.le_refl _ | (refine Below.alloc ?_ ?_ _) | (refine Below.setCell ?_ ?_ _) | (refine Below.drew ?_) | (refine below_drewN ?_ _) | assumption | (simp; done) | (simp; omega))) HB.out.size)) (b1.mono (by have := HB.out.size; simp; omega))
      have H1 := Lib.hid B1
      clear b1 B1
      by_cases e : decB (ss[j] = tt[j]) = true
      · go_wp2_with fail
        go_roundw
        case rel => exact ⟨j + 1, by omega, by go_num, H1.out, Lib.hid (take_eq_succ HT.out hlt hlt' (decB_true e))⟩
        case measure => simp [intOf]; omega
      · have e' := bool_no e
        go_wp2_with fail
        go_ret
        exact ⟨ret_bool (decB_no (fun e => decB_false e' (by subst e; rfl))).symm, H1.out⟩
    · go_wp2_with fail
      go_ret
      have e : ss = tt := by
        have := HT.out
        rwa [List.take_of_length_le (by omega), List.take_of_length_le (by rw [← G.out]; omega)] at this
      exact ⟨ret_bool (decB_yes e).symm, HB.out⟩
set_option maxHeartbeats 800000 in
theorem impl_SameProg (p q : Pg) (x y : V3) (w : World) (F F' : Nat → Prop) (lo : Nat) (hp : PgO w F x p) (hq : PgO w F' y q) (hF : ∀ b, F b → lo ≤ b) (hF' : ∀ b, F' b → lo ≤ b) :
    Calls Try.prog 34 #[x.val p, y.val q] w fun e w' => e = .returned (.bool (decB (p = q))) ∧ Below w.heap.size w w' := by
  have HP := Lib.hid hp.any
  have HQ := Lib.hid hq.any
  have a1 := hp.any.p1
  have a2 := hp.any.p2
  have a1' := hq.any.p1
  have a2' := hq.any.p2
  have R1 : Hid (PrRowF lo w x.pA p.procs) := by
    obtain ⟨G, L, P, s1, s2, s3, d1, d2, d3, _, _, _, _, _, _, _, _, c3⟩ := hp
    exact Lib.hid (c3.fr fun b hb => hF b (s3 b hb))
  have R2 : Hid (PrRowF lo w y.pA q.procs) := by
    obtain ⟨G, L, P, s1, s2, s3, d1, d2, d3, _, _, _, _, _, _, _, _, c3⟩ := hq
    exact Lib.hid (c3.fr fun b hb => hF' b (s3 b hb))
  clear hp hq
  obtain ⟨gs, ls, ps⟩ := p
  obtain ⟨gs', ls', ps'⟩ := q
  obtain ⟨gA, gc, lA, lc, pA, pc⟩ := x
  obtain ⟨gA', gc', lA', lc', pA', pc'⟩ := y
  simp only at a1 a2 a1' a2' R1 R2
  unfold V3.val
  simp only
  by_cases c1 : gs = gs'
  case neg =>
    have d1 : decide (gs = gs') = false := decide_no c1
    have C := Lib.hid c1
    clear c1
    go_enter Try.func34, Try.ntmps34
    go_wp2_with fail
    refine (slices_EqualS _ _ gs gs' _ (HP.out.gs.below (by repeat' (first | exact Below.refl _ _ | exact Nat.le_refl _ | (refine Below.alloc ?_ ?_ _) | (refine Below.setCell ?_ ?_ _) | (refine Below.drew ?_) | (refine below_drewN ?_ _) | assumption | (simp; done) | (simp; omega)))) (HQ.out.gs.below (by repeat' (first | exact Below.refl _ _ | exact Nat.le_refl _ | (refine Below.alloc ?_ ?_ _) | (refine Below.setCell ?_ ?_ _) | (refine Below.drew ?_) | (refine below_drewN ?_ _) | assumption | (simp; done) | (simp; omega))))).mono ?_
    rintro e w1 ⟨rfl, q1⟩
    have B1 : Hid (Below w.heap.size w w1) := Lib.hid (Below.trans (by repeat' (first | exact Below.refl _ _ | exact Nat.le_refl _ | (refine Below.alloc ?_ ?_ _) | (refine Below.setCell ?_ ?_ _) | (refine Below.drew ?_) | (refine below_drewN ?_ _) | assumption | (simp; done) | (simp; omega))) (q1.below.mono (by simp; omega)))
    rw [d1]
    clear q1
    go_wp2_with fail
    go_ret
    exact ⟨ret_bool (decB_no (fun e => C.out (by injection e))).symm, B1.out⟩
  have d1 : decide (gs = gs') = true := decide_eq_true c1
  have C1 := Lib.hid c1
  clear c1
  by_cases c2 : ls = ls'
  case neg =>
    have d2 : decide (ls = ls') = false := decide_no c2
    have C := Lib.hid c2
    clear c2
    go_enter Try.func34, Try.ntmps34
    go_wp2_with fail
    refine (slices_EqualS _ _ gs gs' _ (HP.out.gs.below (by repeat' (first | exact Below.refl _ _ | exact Nat.le_refl _ | (refine Below.alloc ?_ ?_ _) | (refine Below.setCell ?_ ?_ _) | (refine Below.drew ?_) | (refine below_drewN ?_ _) | assumption | (simp; done) | (simp; omega)))) (HQ.out.gs.below (by repeat' (first | exact Below.refl _ _ | exact Nat.le_refl _ | (refine Below.alloc ?_ ?_ _) | (refine Below.setCell ?_ ?_ _) | (refine Below.drew ?_) | (refine below_drewN ?_ _) | assumption | (simp; done) | (simp; omega))))).mono ?_
    rintro e w1 ⟨rfl, q1⟩
    obtain ⟨n1, rfl⟩ := q1
    rw [d1]
    go_wp2_with fail
    refine (slices_EqualS _ _ ls ls' _ (HP.out.ls.below (by repeat' (first | exact Below.refl _ _ | exact Nat.le_refl _ | (refine Below.alloc ?_ ?_ _) | (refine Below.setCell ?_ ?_ _) | (refine Below.drew ?_) | (refine below_drewN ?_ _) | assumption | (simp; done) | (simp; omega)))) (HQ.out.ls.below (by repeat' (first | exact Below.refl _ _ | exact Nat.le_refl _ | (refine Below.alloc ?_ ?_ _) | (refine Below.setCell ?_ ?_ _) | (refine Below.drew ?_) | (refine below_drewN ?_ _) | assumption | (simp; done) | (simp; omega))))).mono ?_
    rintro e w2 ⟨rfl, q2⟩
    have B2 : Hid (Below w.heap.size w w2) := Lib.hid (Below.trans (by repeat' (first | exact Below.refl _ _ | exact Nat.le_refl _ | (refine Below.alloc ?_ ?_ _) | (refine Below.setCell ?_ ?_ _) | (refine Below.drew ?_) | (refine below_drewN ?_ _) | assumption | (simp; done) | (simp; omega))) (q2.below.mono (by simp; omega)))
    rw [d2]
    clear q2
    go_wp2_with fail
    go_ret
    exact ⟨ret_bool (decB_no (fun e => C.out (by injection e))).symm, B2.out⟩
  have d2 : decide (ls = ls') = true := decide_eq_true c2
  have C2 := Lib.hid c2
  clear c2
  go_enter Try.func34, Try.ntmps34
  go_wp2_with fail
  refine (slices_EqualS _ _ gs gs' _ (HP.out.gs.below (by repeat' (first | exact Below.refl _ _ | exact Nat.le_refl _ | (refine Below.alloc ?_ ?_ _) | (refine Below.setCell ?_ ?_ _) | (refine Below.drew ?_) | (refine below_drewN ?_ _) | assumption | (simp; done) | (simp; omega)))) (HQ.out.gs.below (by repeat' (first | exact Below.refl _ _ | exact Nat.le_refl _ | (refine Below.alloc ?_ ?_ _) | (refine Below.setCell ?_ ?_ _) | (refine Below.drew ?_) | (refine below_drewN ?_ _) | assumption | (simp; done) | (simp; omega))))).mono ?_
  rintro e w1 ⟨rfl, q1⟩
  obtain ⟨n1, rfl⟩ := q1
  rw [d1]
  go_wp2_with fail
  refine (slices_EqualS _ _ ls ls' _ (HP.out.ls.below (by repeat' (first | exact Below.refl _ _ | exact Nat.le_refl _ | (refine Below.alloc ?_ ?_ _) | (refine Below.setCell ?_ ?_ _) | (refine Below.drew ?_) | (refine below_drewN ?_ _) | assumption | (simp; done) | (simp; omega)))) (HQ.out.ls.below (by repeat' (first | exact Below.refl _ _ | exact Nat.le_refl _ | (refine Below.alloc ?_ ?_ _) | (refine Below.setCell ?_ ?_ _) | (refine Below.drew ?_) | (refine below_drewN ?_ _) | assumption | (simp; done) | (simp; omega))))).mono ?_
  rintro e w2 ⟨rfl, q2⟩
  obtain ⟨n2, rfl⟩ := q2
  rw [d2]
  go_wp2_with fail
  refine (procs_EqualFunc ps ps' pA pA' pc pc' _ lo (R1.out.belowF (by repeat' (first | exact Below.refl _ _ | exact Nat.le_refl _ | (refine Below.alloc ?_ ?_ _) | (refine Below.setCell ?_ ?_ _) | (refine Below.drew ?_) | (refine below_drewN ?_ _) | assumption | (simp; done) | (simp; omega)))) (R2.out.belowF (by repeat' (first | exact Below.refl _ _ | exact Nat.le_refl _ | (refine Below.alloc ?_ ?_ _) | (refine Below.setCell ?_ ?_ _) | (refine Below.drew ?_) | (refine below_drewN ?_ _) | assumption | (simp; done) | (simp; omega)))) a1 a1' a2 a2').mono ?_
  rintro e w3 ⟨rfl, b3⟩
  have B3 : Hid (Below w.heap.size w w3) := Lib.hid (Below.trans (by repeat' (first | exact Below.refl _ _ | exact Nat.le_refl _ | (refine Below.alloc ?_ ?_ _) | (refine Below.setCell ?_ ?_ _) | (refine Below.drew ?_) | (refine below_drewN ?_ _) | assumption | (simp; done) | (simp; omega))) (b3.mono (by simp; omega)))
  have HE : Hid (decB (ps = ps') = decB ((⟨gs, ls, ps⟩ : Pg) = ⟨gs', ls', ps'⟩)) := Lib.hid (by
    by_cases c3 : ps = ps'
    · rw [decB_yes c3, decB_yes (by rw [C1.out, C2.out, c3])]
    · rw [decB_no c3, decB_no (fun e => c3 (by injection e))])
  clear b3
  go_wp2_with fail
  go_ret
  exact ⟨ret_bool HE.out, B3.out⟩
end Go.Proofs.Ytkipkincggajcaa
