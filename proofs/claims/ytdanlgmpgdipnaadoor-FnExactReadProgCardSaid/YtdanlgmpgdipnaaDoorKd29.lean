/- Several texts in one: ZeroTm, StmtEq, PgIs, StrsO. -/
import Derived.Test.YtdanlgmpgdipnaaDoorKd7
import Derived.Test.YtdanlgmpgdipnaaDoorKd28
import Derived.Test.YtdanlgmpgdipnaaDoorKd25
import Derived.Test.YtdanlgmpgdipnaaDoorKd26
import Derived.Test.YtdanlgmpgdipnaaDoorKd13
import Derived.Test.YtdanlgmpgdipnaaDoorKd4
namespace Go.Proofs.YtdanlgmpgdipnaaDoor
open Go.RowKit
set_option linter.unusedVariables false



abbrev EgC (g : St) : Prop := ∀ (h : St) (x y : V8) (w : World), StIs AnyB w x g → StIs AnyB w y h →
  Calls Tryd.prog 63 #[.agg #[.int .i64 x.k, .string x.s, .int .i64 x.tk, .int .i64 x.tn, .string x.ts, .slice x.tA x.tm x.tc, .slice x.bA x.bm x.bc, .slice x.eA x.em x.ec], .agg #[.int .i64 y.k, .string y.s, .int .i64 y.tk, .int .i64 y.tn, .string y.ts, .slice y.tA y.tm y.tc, .slice y.bA y.bm y.bc, .slice y.eA y.em y.ec]] w fun e w' => e = .returned (.bool (sameG g h)) ∧ Below w.heap.size w w'
set_option maxHeartbeats 1600000 in
theorem laws_eqStmtS (ss tt : List St) (ih : ∀ t ∈ ss, EgC t) (A A' : Option Addr) (c c' : Nat) (w : World) (row : StRow AnyB w A ss) (row' : StRow AnyB w A' tt) (hl : ss.length ≤ c) (hl' : tt.length ≤ c') (hc : c ≤ maxLen) (hc' : c' ≤ maxLen) :
    Calls Tryd.prog 53 #[.slice A ss.length c, .slice A' tt.length c'] w fun e w' => e = .returned (.bool (samesG ss tt)) ∧ Below w.heap.size w w' := by
  unfold maxLen at hc hc'
  have IH := Lib.hid ih
  have RW := Lib.hid row
  have RW' := Lib.hid row'
  clear ih row row'
  by_cases g0 : ss.length = tt.length
  · have g1 : ((ss.length : Int) != (tt.length : Int)) = false := by simp [g0]
    have G := Lib.hid g0
    clear g0
    go_enter Tryd.func53, Tryd.ntmps53
    go_wp2_with fail
    go_loopw [5] (fun i wr => ∃ k : Nat, k ≤ ss.length ∧ i = .int .i64 k ∧ Below w.heap.size w wr ∧ Hid (ss.take k = tt.take k)) (fun i _ => ss.length - (intOf i).toNat)
    case atStart => exact ⟨0, Nat.zero_le _, rfl, Below.refl _ _, Lib.hid rfl⟩
    case round =>
      obtain ⟨k, hk, rfl, hb, HT⟩ := hrel
      have HB := Lib.hid hb
      clear hb
      by_cases hlt : k < ss.length
      · have hlt' : k < tt.length := by rw [← G.out]; exact hlt
        obtain ⟨b, off, x, rfl, _, ⟨d0, d1, d2, d3, d4, d5, d6, d7⟩, ht⟩ := rd_stmt (RW.out.belowA HB.out) hlt
        obtain ⟨b', off', y, rfl, _, ⟨e0, e1, e2, e3, e4, e5, e6, e7⟩, ht'⟩ := rd_stmt (RW'.out.belowA HB.out) hlt'
        have T1 := Lib.hid ht
        have T2 := Lib.hid ht'
        clear ht ht'
        have h0k : (0 : Int) ≤ (k : Int) := by omega
        have h1k : (k : Int) < (ss.length : Int) := by omega
        have h2k : (k : Int) < (tt.length : Int) := by omega
        by_cases e : sameG ss[k] tt[k] = true
        · go_wp2_with fail
          go_region_held3 (fun w' => w'.cell? ⟨b, off + k * 8, none⟩ = some (.int .i64 x.k) ∧ w'.cell? ⟨b, off + k * 8 + 1, none⟩ = some (.string x.s) ∧ w'.cell? ⟨b, off + k * 8 + 2, none⟩ = some (.int .i64 x.tk) ∧ w'.cell? ⟨b, off + k * 8 + 3, none⟩ = some (.int .i64 x.tn) ∧ w'.cell? ⟨b, off + k * 8 + 4, none⟩ = some (.string x.ts) ∧ w'.cell? ⟨b, off + k * 8 + 5, none⟩ = some (.slice x.tA x.tm x.tc) ∧ w'.cell? ⟨b, off + k * 8 + 6, none⟩ = some (.slice x.bA x.bm x.bc) ∧ w'.cell? ⟨b, off + k * 8 + 7, none⟩ = some (.slice x.eA x.em x.ec) ∧ w'.cell? ⟨b', off' + k * 8, none⟩ = some (.int .i64 y.k) ∧ w'.cell? ⟨b', off' + k * 8 + 1, none⟩ = some (.string y.s) ∧ w'.cell? ⟨b', off' + k * 8 + 2, none⟩ = some (.int .i64 y.tk) ∧ w'.cell? ⟨b', off' + k * 8 + 3, none⟩ = some (.int .i64 y.tn) ∧ w'.cell? ⟨b', off' + k * 8 + 4, none⟩ = some (.string y.ts) ∧ w'.cell? ⟨b', off' + k * 8 + 5, none⟩ = some (.slice y.tA y.tm y.tc) ∧ w'.cell? ⟨b', off' + k * 8 + 6, none⟩ = some (.slice y.bA y.bm y.bc) ∧ w'.cell? ⟨b', off' + k * 8 + 7, none⟩ = some (.slice y.eA y.em y.ec))
            (first | go_keep | exact ⟨cell_keep b1 d0, cell_keep b1 d1, cell_keep b1 d2, cell_keep b1 d3, cell_keep b1 d4, cell_keep b1 d5, cell_keep b1 d6, cell_keep b1 d7, cell_keep b1 e0, cell_keep b1 e1, cell_keep b1 e2, cell_keep b1 e3, cell_keep b1 e4, cell_keep b1 e5, cell_keep b1 e6, cell_keep b1 e7⟩)
            (first | (go_at_call 63; refine (IH.out _ (List.getElem_mem hlt) tt[k] x y _ (by exact T1.out.drew) (by exact T2.out.drew)).mono ?_; rintro e w1 ⟨rfl, b1⟩))
          all_goals
            go_wp2_with fail
            go_roundw
            case rel => exact ⟨k + 1, by omega, by go_num, HB.out.drew.trans (b1.mono HB.out.size), Lib.hid (take_eq_succ HT.out hlt hlt' (sameG_true e))⟩
            case measure => simp [intOf]; omega
        · have e' := bool_no e
          go_wp2_with fail
          go_region_held3 (fun w' => w'.cell? ⟨b, off + k * 8, none⟩ = some (.int .i64 x.k) ∧ w'.cell? ⟨b, off + k * 8 + 1, none⟩ = some (.string x.s) ∧ w'.cell? ⟨b, off + k * 8 + 2, none⟩ = some (.int .i64 x.tk) ∧ w'.cell? ⟨b, off + k * 8 + 3, none⟩ = some (.int .i64 x.tn) ∧ w'.cell? ⟨b, off + k * 8 + 4, none⟩ = some (.string x.ts) ∧ w'.cell? ⟨b, off + k * 8 + 5, none⟩ = some (.slice x.tA x.tm x.tc) ∧ w'.cell? ⟨b, off + k * 8 + 6, none⟩ = some (.slice x.bA x.bm x.bc) ∧ w'.cell? ⟨b, off + k * 8 + 7, none⟩ = some (.slice x.eA x.em x.ec) ∧ w'.cell? ⟨b', off' + k * 8, none⟩ = some (.int .i64 y.k) ∧ w'.cell? ⟨b', off' + k * 8 + 1, none⟩ = some (.string y.s) ∧ w'.cell? ⟨b', off' + k * 8 + 2, none⟩ = some (.int .i64 y.tk) ∧ w'.cell? ⟨b', off' + k * 8 + 3, none⟩ = some (.int .i64 y.tn) ∧ w'.cell? ⟨b', off' + k * 8 + 4, none⟩ = some (.string y.ts) ∧ w'.cell? ⟨b', off' + k * 8 + 5, none⟩ = some (.slice y.tA y.tm y.tc) ∧ w'.cell? ⟨b', off' + k * 8 + 6, none⟩ = some (.slice y.bA y.bm y.bc) ∧ w'.cell? ⟨b', off' + k * 8 + 7, none⟩ = some (.slice y.eA y.em y.ec))
            (first | go_keep | exact ⟨cell_keep b1 d0, cell_keep b1 d1, cell_keep b1 d2, cell_keep b1 d3, cell_keep b1 d4, cell_keep b1 d5, cell_keep b1 d6, cell_keep b1 d7, cell_keep b1 e0, cell_keep b1 e1, cell_keep b1 e2, cell_keep b1 e3, cell_keep b1 e4, cell_keep b1 e5, cell_keep b1 e6, cell_keep b1 e7⟩)
            (first | (go_at_call 63; refine (IH.out _ (List.getElem_mem hlt) tt[k] x y _ (by exact T1.out.drew) (by exact T2.out.drew)).mono ?_; rintro e w1 ⟨rfl, b1⟩))
          all_goals
            go_wp2_with fail
            go_ret
            exact ⟨ret_bool (samesG_no (fun e => sameG_false e' (by subst e; rfl))).symm, HB.out.drew.trans (b1.mono HB.out.size)⟩
      · go_wp2_with fail
        go_ret
        have e : ss = tt := by
          have := HT.out
          rwa [List.take_of_length_le (by omega), List.take_of_length_le (by rw [← G.out]; omega)] at this
        exact ⟨ret_bool (samesG_yes e).symm, HB.out⟩
  · have g1 : ((ss.length : Int) != (tt.length : Int)) = true := by simp; omega
    have G := Lib.hid g0
    clear g0
    go_enter Tryd.func53, Tryd.ntmps53
    go_wp2_with fail
    go_ret
    exact ⟨ret_bool (samesG_no (fun e => G.out (by rw [e]))).symm, Below.refl _ _⟩
set_option maxHeartbeats 1600000 in
theorem laws_eqStmt (g : St) : EgC g := by
  induction hN : snodes g using Nat.strongRecOn generalizing g with
  | ind N ih =>
    intro h x y w hg hh
    obtain ⟨t, body, els, rfl, _, _, ht, hb1, hb2, hb3, rb, he1, he2, he3, re⟩ := hg.inv
    obtain ⟨t', body', els', rfl, _, _, ht', hb1', hb2', hb3', rb', he1', he2', he3', re'⟩ := hh.inv
    have IB : Hid (∀ y ∈ body, EgC y) := Lib.hid fun y hy => ih (snodes y) (by rw [← hN]; exact body_lt hy) y rfl
    have IE : Hid (∀ y ∈ els, EgC y) := Lib.hid fun y hy => ih (snodes y) (by rw [← hN]; exact else_lt hy) y rfl
    have HT := Lib.hid ht
    have RB := Lib.hid rb
    have RE := Lib.hid re
    have HT' := Lib.hid ht'
    have RB' := Lib.hid rb'
    have RE' := Lib.hid re'
    obtain ⟨k, s, tk, tn, ts, tA, tm, tc, bA, bm, bc, eA, em, ec⟩ := x
    obtain ⟨k', s', tk', tn', ts', tA', tm', tc', bA', bm', bc', eA', em', ec'⟩ := y
    simp only at hb1 hb2 hb3 he1 he2 he3 RB RE hb1' hb2' hb3' he1' he2' he3' RB' RE'
    simp only
    subst hb1 he1 hb1' he1'
    clear ih hN hg hh ht rb re ht' rb' re'
    have q := str_eq s s'
    by_cases c1 : k = k'
    case neg =>
      have q1 : (k != k') = true := by simpa using c1
      have C := Lib.hid c1
      clear c1
      go_enter Tryd.func63, Tryd.ntmps63
      go_wp2_with fail
      go_ret
      exact ⟨ret_bool (sameG_no (fun e => C.out (by injection e))).symm, (by repeat' (first | exact Below.refl _ _ | exact Nat.le_refl _ | (refine Below.alloc ?_ ?_ _) | (refine Below.setCell ?_ ?_ _) | (refine Below.drew ?_) | (refine below_drewN ?_ _) | assumption | (simp; done) | (simp; omega)))⟩
    have q1 : (k != k') = false := by simp [c1]
    by_cases c2 : s = s'
    case neg =>
      rw [decide_no c2] at q
      have C := Lib.hid c2
      clear c1 c2
      go_enter Tryd.func63, Tryd.ntmps63
      go_wp2_with fail
      go_ret
      exact ⟨ret_bool (sameG_no (fun e => C.out (by injection e))).symm, (by repeat' (first | exact Below.refl _ _ | exact Nat.le_refl _ | (refine Below.alloc ?_ ?_ _) | (refine Below.setCell ?_ ?_ _) | (refine Below.drew ?_) | (refine below_drewN ?_ _) | assumption | (simp; done) | (simp; omega)))⟩
    rw [decide_eq_true c2] at q
    have C := Lib.hid (And.intro c1 c2)
    clear c1 c2
    go_enter Tryd.func63, Tryd.ntmps63
    go_wp2_with fail
    refine (laws_eqTerm t t' tk tn ts tA tm tc tk' tn' ts' tA' tm' tc' _ (HT.out.belowA (by repeat' (first | exact Below.refl _ _ | exact Nat.le_refl _ | (refine Below.alloc ?_ ?_ _) | (refine Below.setCell ?_ ?_ _) | (refine Below.drew ?_) | (refine below_drewN ?_ _) | assumption | (simp; done) | (simp; omega)))) (HT'.out.belowA (by repeat' (first | exact Below.refl _ _ | exact Nat.le_refl _ | (refine Below.alloc ?_ ?_ _) | (refine Below.setCell ?_ ?_ _) | (refine Below.drew ?_) | (refine below_drewN ?_ _) | assumption | (simp; done) | (simp; omega))))).mono ?_
    rintro e w1 ⟨rfl, b1⟩
    have B1 : Below w.heap.size w w1 := Below.trans (by repeat' (first | exact Below.refl _ _ | exact Nat.le_refl _ | (refine Below.alloc ?_ ?_ _) | (refine Below.setCell ?_ ?_ _) | (refine Below.drew ?_) | (refine below_drewN ?_ _) | assumption | (simp; done) | (simp; omega))) (b1.mono (by simp; omega))
    have H1 := Lib.hid B1
    obtain ⟨hcell, hfree⟩ := old_cells b1
    simp only [World.size_alloc] at hcell hfree
    have hz1 := b1.size
    simp only [World.size_alloc] at hz1
    clear b1 B1
    by_cases c3 : t = t'
    case neg =>
      rw [sameB_no c3]
      have C3 := Lib.hid c3
      clear c3
      go_wp2_with fail
      go_ret
      exact ⟨ret_bool (sameG_no (fun e => C3.out (by injection e))).symm, H1.out⟩
    rw [sameB_yes c3]
    have C3 := Lib.hid c3
    clear c3
    go_wp2_with fail
    refine (laws_eqStmtS body body' IB.out bA bA' bc bc' _ (RB.out.belowA H1.out) (RB'.out.belowA H1.out) hb2 hb2' hb3 hb3').mono ?_
    rintro e w2 ⟨rfl, b2⟩
    have H2 := Lib.hid (below_then H1.out b2)
    have u7 : w2.cell? ⟨w.heap.size, 7, none⟩ = some (.slice eA els.length ec) := cell_keep b2 (by rw [hcell _ _ (by omega)]; simp [go_sem])
    have u8 : w2.cell? ⟨w.heap.size + 1, 7, none⟩ = some (.slice eA' els'.length ec') := cell_keep b2 (by rw [hcell _ _ (by omega)]; simp [go_sem])
    clear b2
    by_cases c4 : body = body'
    case neg =>
      rw [samesG_no c4]
      have C4 := Lib.hid c4
      clear c4
      go_wp2_with fail
      go_ret
      exact ⟨ret_bool (sameG_no (fun e => C4.out (by injection e))).symm, H2.out⟩
    rw [samesG_yes c4]
    have C4 := Lib.hid c4
    clear c4
    go_wp2_with fail
    refine (laws_eqStmtS els els' IE.out eA eA' ec ec' _ (RE.out.belowA H2.out) (RE'.out.belowA H2.out) he2 he2' he3 he3').mono ?_
    rintro e w3 ⟨rfl, b3⟩
    have H3 := Lib.hid (below_then H2.out b3)
    clear b3
    by_cases c5 : els = els'
    case neg =>
      rw [samesG_no c5]
      have C5 := Lib.hid c5
      clear c5
      go_wp2_with fail
      go_ret
      exact ⟨ret_bool (sameG_no (fun e => C5.out (by injection e))).symm, H3.out⟩
    rw [samesG_yes c5]
    have C5 := Lib.hid c5
    clear c5
    go_wp2_with fail
    go_ret
    exact ⟨ret_bool (sameG_yes (by rw [C.out.1, C.out.2, C3.out, C4.out, C5.out])).symm, H3.out⟩

structure Pr where
  name : ByteArray
  body : List St
structure Pg where
  globals : List ByteArray
  locks : List ByteArray
  procs : List Pr
/-- the two cells of a procedure -/
structure V2 where
  s : ByteArray
  A : Option Addr
  m : Nat
  c : Nat
def V2.cells (x : V2) : List Value := [.string x.s, .slice x.A x.m x.c]
theorem v2_len (x : V2) : x.cells.length = 2 := rfl
def z2 : V2 := ⟨ByteArray.empty, none, 0, 0⟩
def PrIs (w : World) (x : V2) (p : Pr) : Prop := p.name = x.s ∧ x.m = p.body.length ∧ x.s.size ≤ maxLen ∧ p.body.length ≤ x.c ∧ x.c ≤ maxLen ∧ StRow AnyB w x.A p.body
/-- a row of procedures -/
def PrRow (w : World) (A : Option Addr) (l : List Pr) : Prop := ∃ xs : List V2, xs.length = l.length ∧ Rd w 2 A xs.length (xs.flatMap V2.cells) ∧ ∀ i (h : i < l.length) (h' : i < xs.length), PrIs w xs[i] l[i]
theorem PrIs.belowA {w w' : World} {x : V2} {p : Pr} (h : PrIs w x p) (hb : Below w.heap.size w w') : PrIs w' x p := ⟨h.1, h.2.1, h.2.2.1, h.2.2.2.1, h.2.2.2.2.1, h.2.2.2.2.2.belowA hb⟩
theorem PrRow.belowA {w w' : World} {A : Option Addr} {l : List Pr} (h : PrRow w A l) (hb : Below w.heap.size w w') : PrRow w' A l := by
  obtain ⟨xs, h1, rd, hx⟩ := h
  exact ⟨xs, h1, rd.below hb, fun i h h' => (hx i h h').belowA hb⟩
theorem PrRow.drew {w : World} {A : Option Addr} {l : List Pr} (h : PrRow w A l) : PrRow w.drew A l := h.belowA (Below.refl _ _).drew
/-- the cells of element k of a row -/
theorem rd_proc {w : World} {A : Option Addr} {l : List Pr} (row : PrRow w A l) {k : Nat} (hk : k < l.length) :
    ∃ b off x, A = some ⟨b, off, none⟩ ∧ w.cell? ⟨b, off + k * 2, none⟩ = some (.string x.s) ∧ w.cell? ⟨b, off + k * 2 + 1, none⟩ = some (.slice x.A x.m x.c) ∧ PrIs w x l[k] := by
  obtain ⟨xs, hl, rd, hx⟩ := row
  have hk' : k < xs.length := by omega
  obtain ⟨b, off, e, hc⟩ := rd_flat v2_len rd hk'
  exact ⟨b, off, xs[k], e, hc 0 _ (by decide) rfl, hc 1 _ (by decide) rfl, hx k hk hk'⟩
/-- the value of a program: three slices -/
structure V3 where
  gA : Option Addr
  gc : Nat
  lA : Option Addr
  lc : Nat
  pA : Option Addr
  pc : Nat
def V3.val (x : V3) (p : Pg) : Value := .agg #[.slice x.gA p.globals.length x.gc, .slice x.lA p.locks.length x.lc, .slice x.pA p.procs.length x.pc]
structure PgIs (w : World) (x : V3) (p : Pg) : Prop where
  g1 : p.globals.length ≤ x.gc
  g2 : x.gc ≤ maxLen
  g3 : Rd w 1 x.gA p.globals.length (p.globals.map Value.string)
  g4 : ∀ s ∈ p.globals, s.size ≤ maxLen
  l1 : p.locks.length ≤ x.lc
  l2 : x.lc ≤ maxLen
  l3 : Rd w 1 x.lA p.locks.length (p.locks.map Value.string)
  l4 : ∀ s ∈ p.locks, s.size ≤ maxLen
  p1 : p.procs.length ≤ x.pc
  p2 : x.pc ≤ maxLen
  p3 : PrRow w x.pA p.procs
theorem PgIs.belowA {w w' : World} {x : V3} {p : Pg} (h : PgIs w x p) (hb : Below w.heap.size w w') : PgIs w' x p := ⟨h.g1, h.g2, h.g3.below hb, h.g4, h.l1, h.l2, h.l3.below hb, h.l4, h.p1, h.p2, h.p3.belowA hb⟩
theorem PgIs.drew {w : World} {x : V3} {p : Pg} (h : PgIs w x p) : PgIs w.drew x p := h.belowA (Below.refl _ _).drew
theorem PgIs.gs {w : World} {x : V3} {p : Pg} (h : PgIs w x p) : IsStrs w (.slice x.gA p.globals.length x.gc) p.globals := ⟨_, _, rfl, h.g1, h.g2, h.g3⟩
theorem PgIs.ls {w : World} {x : V3} {p : Pg} (h : PgIs w x p) : IsStrs w (.slice x.lA p.locks.length x.lc) p.locks := ⟨_, _, rfl, h.l1, h.l2, h.l3⟩

end Go.Proofs.YtdanlgmpgdipnaaDoor
