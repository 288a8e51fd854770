/- Lemmas for the row. -/
import Derived.Test.YtadcebdhgocmhaaKo17
import Derived.Test.YtadcebdhgocmhaaKo2
import Derived.Deep.QuietTactic
import Derived.BigQuiet
import Derived.Test.YtadcebdhgocmhaaKo18
namespace Go.Proofs.Ytadcebdhgocmhaa
open Go.RowKit
set_option linter.unusedVariables false
abbrev EgC (g : St) : Prop := ∀ (h : St) (x y : V8) (w : World), StIs AnyB w x g → StIs AnyB w y h →
  Calls Try.prog 118 #[.agg #[.int .i64 x.k, .string x.s, .int .i64 x.tk, .int .i64 x.tn, .string x.ts, .slice x.tA x.tm x.tc, .slice x.bA x.bm x.bc, .slice x.eA x.em x.ec], .agg #[.int .i64 y.k, .string y.s, .int .i64 y.tk, .int .i64 y.tn, .string y.ts, .slice y.tA y.tm y.tc, .slice y.bA y.bm y.bc, .slice y.eA y.em y.ec]] w fun e w' => e = .returned (.bool (sameG g h)) ∧ Below w.heap.size w w'
set_option maxHeartbeats 1600000 in
theorem laws_eqStmtS (ss tt : List St) (ih : ∀ t ∈ ss, EgC t) (A A' : Option Addr) (c c' : Nat) (w : World) (row : StRow AnyB w A ss) (row' : StRow AnyB w A' tt) (hl : ss.length ≤ c) (hl' : tt.length ≤ c') (hc : c ≤ maxLen) (hc' : c' ≤ maxLen) :
    Calls Try.prog 107 #[.slice A ss.length c, .slice A' tt.length c'] w fun e w' => e = .returned (.bool (samesG ss tt)) ∧ Below w.heap.size w w' := by
  unfold maxLen at hc hc'
  have IH := Lib.hid ih
  have RW := Lib.hid row
  have RW' := Lib.hid row'
  clear ih row row'
  by_cases g0 : ss.length = tt.length
  · have g1 : ((ss.length : Int) != (tt.length : Int)) = false := by simp [g0]
    have G := Lib.hid g0
    clear g0
    go_enter Try.func107, Try.ntmps107
    go_wp2_with fail
    go_loopw [5] (fun i wr => ∃ k : Nat, k ≤ ss.length ∧ i = .int .i64 k ∧ Below w.heap.size w wr ∧ Hid (ss.take k = tt.take k)) (fun i _ => ss.length - (intOf i).toNat)
    case atStart => exact ⟨0, Nat.zero_le _, rfl, Below.refl _ _, Lib.hid rfl⟩
    case round =>
      obtain ⟨k, hk, rfl, hb, HT⟩ := hrel
      have HB := Lib.hid hb
      clear hb
      by_cases hlt : k < ss.length
      · have hlt' : k < tt.length := by rw [← G.out]; exact hlt
        obtain ⟨b, off, x, rfl, _, ⟨d0, d1, d2, d3, d4, d5, d6, d7⟩, ht⟩ := rd_stmt (RW.out.belowA HB.out) hlt
        obtain ⟨b', off', y, rfl, _, ⟨e0, e1, e2, e3, e4, e5, e6, e7⟩, ht'⟩ := rd_stmt (RW'.out.belowA HB.out) hlt'
        have T1 := Lib.hid ht
        have T2 := Lib.hid ht'
        clear ht ht'
        have h0k : (0 : Int) ≤ (k : Int) := by omega
        have h1k : (k : Int) < (ss.length : Int) := by omega
        have h2k : (k : Int) < (tt.length : Int) := by omega
        by_cases e : sameG ss[k] tt[k] = true
        · go_wp2_with fail
          go_region_held3 (fun w' => w'.cell? ⟨b, off + k * 8, none⟩ = some (.int .i64 x.k) ∧ w'.cell? ⟨b, off + k * 8 + 1, none⟩ = some (.string x.s) ∧ w'.cell? ⟨b, off + k * 8 + 2, none⟩ = some (.int .i64 x.tk) ∧ w'.cell? ⟨b, off + k * 8 + 3, none⟩ = some (.int .i64 x.tn) ∧ w'.cell? ⟨b, off + k * 8 + 4, none⟩ = some (.string x.ts) ∧ w'.cell? ⟨b, off + k * 8 + 5, none⟩ = some (.slice x.tA x.tm x.tc) ∧ w'.cell? ⟨b, off + k * 8 + 6, none⟩ = some (.slice x.bA x.bm x.bc) ∧ w'.cell? ⟨b, off + k * 8 + 7, none⟩ = some (.slice x.eA x.em x.ec) ∧ w'.cell? ⟨b', off' + k * 8, none⟩ = some (.int .i64 y.k) ∧ w'.cell? ⟨b', off' + k * 8 + 1, none⟩ = some (.string y.s) ∧ w'.cell? ⟨b', off' + k * 8 + 2, none⟩ = some (.int .i64 y.tk) ∧ w'.cell? ⟨b', off' + k * 8 + 3, none⟩ = some (.int .i64 y.tn) ∧ w'.cell? ⟨b', off' + k * 8 + 4, none⟩ = some (.string y.ts) ∧ w'.cell? ⟨b', off' + k * 8 + 5, none⟩ = some (.slice y.tA y.tm y.tc) ∧ w'.cell? ⟨b', off' + k * 8 + 6, none⟩ = some (.slice y.bA y.bm y.bc) ∧ w'.cell? ⟨b', off' + k * 8 + 7, none⟩ = some (.slice y.eA y.em y.ec))
            (first | go_keep | exact ⟨cell_keep b1 d0, cell_keep b1 d1, cell_keep b1 d2, cell_keep b1 d3, cell_keep b1 d4, cell_keep b1 d5, cell_keep b1 d6, cell_keep b1 d7, cell_keep b1 e0, cell_keep b1 e1, cell_keep b1 e2, cell_keep b1 e3, cell_keep b1 e4, cell_keep b1 e5, cell_keep b1 e6, cell_keep b1 e7⟩)
            (first | (go_at_call 118; refine (IH.out _ (List.getElem_mem hlt) tt[k] x y _ (by exact T1.out.drew) (by exact T2.out.drew)).mono ?_; rintro e w1 ⟨rfl, b1⟩))
          all_goals
            go_wp2_with fail
            go_roundw
            case rel => exact ⟨k + 1, by omega, by go_num, HB.out.drew.trans (b1.mono HB.out.size), Lib.hid (take_eq_succ HT.out hlt hlt' (sameG_true e))⟩
            case measure => simp [intOf]; omega
        · have e' := bool_no e
          go_wp2_with fail
          go_region_held3 (fun w' => w'.cell? ⟨b, off + k * 8, none⟩ = some (.int .i64 x.k) ∧ w'.cell? ⟨b, off + k * 8 + 1, none⟩ = some (.string x.s) ∧ w'.cell? ⟨b, off + k * 8 + 2, none⟩ = some (.int .i64 x.tk) ∧ w'.cell? ⟨b, off + k * 8 + 3, none⟩ = some (.int .i64 x.tn) ∧ w'.cell? ⟨b, off + k * 8 + 4, none⟩ = some (.string x.ts) ∧ w'.cell? ⟨b, off + k * 8 + 5, none⟩ = some (.slice x.tA x.tm x.tc) ∧ w'.cell? ⟨b, off + k * 8 + 6, none⟩ = some (.slice x.bA x.bm x.bc) ∧ w'.cell? ⟨b, off + k * 8 + 7, none⟩ = some (.slice x.eA x.em x.ec) ∧ w'.cell? ⟨b', off' + k * 8, none⟩ = some (.int .i64 y.k) ∧ w'.cell? ⟨b', off' + k * 8 + 1, none⟩ = some (.string y.s) ∧ w'.cell? ⟨b', off' + k * 8 + 2, none⟩ = some (.int .i64 y.tk) ∧ w'.cell? ⟨b', off' + k * 8 + 3, none⟩ = some (.int .i64 y.tn) ∧ w'.cell? ⟨b', off' + k * 8 + 4, none⟩ = some (.string y.ts) ∧ w'.cell? ⟨b', off' + k * 8 + 5, none⟩ = some (.slice y.tA y.tm y.tc) ∧ w'.cell? ⟨b', off' + k * 8 + 6, none⟩ = some (.slice y.bA y.bm y.bc) ∧ w'.cell? ⟨b', off' + k * 8 + 7, none⟩ = some (.slice y.eA y.em y.ec))
            (first | go_keep | exact ⟨cell_keep b1 d0, cell_keep b1 d1, cell_keep b1 d2, cell_keep b1 d3, cell_keep b1 d4, cell_keep b1 d5, cell_keep b1 d6, cell_keep b1 d7, cell_keep b1 e0, cell_keep b1 e1, cell_keep b1 e2, cell_keep b1 e3, cell_keep b1 e4, cell_keep b1 e5, cell_keep b1 e6, cell_keep b1 e7⟩)
            (first | (go_at_call 118; refine (IH.out _ (List.getElem_mem hlt) tt[k] x y _ (by exact T1.out.drew) (by exact T2.out.drew)).mono ?_; rintro e w1 ⟨rfl, b1⟩))
          all_goals
            go_wp2_with fail
            go_ret
            exact ⟨ret_bool (samesG_no (fun e => sameG_false e' (by subst e; rfl))).symm, HB.out.drew.trans (b1.mono HB.out.size)⟩
      · go_wp2_with fail
        go_ret
        have e : ss = tt := by
          have := HT.out
          rwa [List.take_of_length_le (by omega), List.take_of_length_le (by rw [← G.out]; omega)] at this
        exact ⟨ret_bool (samesG_yes e).symm, HB.out⟩
  · have g1 : ((ss.length : Int) != (tt.length : Int)) = true := by simp; omega
    have G := Lib.hid g0
    clear g0
    go_enter Try.func107, Try.ntmps107
    go_wp2_with fail
    go_ret
    exact ⟨ret_bool (samesG_no (fun e => G.out (by rw [e]))).symm, Below.refl _ _⟩
set_option maxHeartbeats 1600000 in
theorem laws_eqStmt (g : St) : EgC g := by
  induction hN : snodes g using Nat.strongRecOn generalizing g with
  | ind N ih =>
    intro h x y w hg hh
    obtain ⟨t, body, els, rfl, _, _, ht, hb1, hb2, hb3, rb, he1, he2, he3, re⟩ := hg.inv
    obtain ⟨t', body', els', rfl, _, _, ht', hb1', hb2', hb3', rb', he1', he2', he3', re'⟩ := hh.inv
    have IB : Hid (∀ y ∈ body, EgC y) := Lib.hid fun y hy => ih (snodes y) (by rw [← hN]; exact body_lt hy) y rfl
    have IE : Hid (∀ y ∈ els, EgC y) := Lib.hid fun y hy => ih (snodes y) (by rw [← hN]; exact else_lt hy) y rfl
    have HT := Lib.hid ht
    have RB := Lib.hid rb
    have RE := Lib.hid re
    have HT' := Lib.hid ht'
    have RB' := Lib.hid rb'
    have RE' := Lib.hid re'
    obtain ⟨k, s, tk, tn, ts, tA, tm, tc, bA, bm, bc, eA, em, ec⟩ := x
    obtain ⟨k', s', tk', tn', ts', tA', tm', tc', bA', bm', bc', eA', em', ec'⟩ := y
    simp only at hb1 hb2 hb3 he1 he2 he3 RB RE hb1' hb2' hb3' he1' he2' he3' RB' RE'
    simp only
    subst hb1 he1 hb1' he1'
    clear ih hN hg hh ht rb re ht' rb' re'
    have q := str_eq s s'
    by_cases c1 : k = k'
    case neg =>
      have q1 : (k != k') = true := by simpa using c1
      have C := Lib.hid c1
      clear c1
      go_enter Try.func118, Try.ntmps118
      go_wp2_with fail
      go_ret
      exact ⟨ret_bool (sameG_no (fun e => C.out (by injection e))).symm, (by repeat' first|exact .refl _ _|exact Nat.le_refl _|refine .alloc ?_ ?_ _|refine .setCell ?_ ?_ _|refine .drew ?_|refine below_drewN ?_ _|assumption|(simp;done)|(simp;omega))⟩
    have q1 : (k != k') = false := by simp [c1]
    by_cases c2 : s = s'
    case neg =>
      rw [decide_no c2] at q
      have C := Lib.hid c2
      clear c1 c2
      go_enter Try.func118, Try.ntmps118
      go_wp2_with fail
      go_ret
      exact ⟨ret_bool (sameG_no (fun e => C.out (by injection e))).symm, (by repeat' first|exact .refl _ _|exact Nat.le_refl _|refine .alloc ?_ ?_ _|refine .setCell ?_ ?_ _|refine .drew ?_|refine below_drewN ?_ _|assumption|(simp;done)|(simp;omega))⟩
    rw [decide_eq_true c2] at q
    have C := Lib.hid (And.intro c1 c2)
    clear c1 c2
    go_enter Try.func118, Try.ntmps118
    go_wp2_with fail
    refine (laws_eqTerm t t' tk tn ts tA tm tc tk' tn' ts' tA' tm' tc' _ (HT.out.belowA (by repeat' first|exact .refl _ _|exact Nat.le_refl _|refine .alloc ?_ ?_ _|refine .setCell ?_ ?_ _|refine .drew ?_|refine below_drewN ?_ _|assumption|(simp;done)|(simp;omega))) (HT'.out.belowA (by repeat' first|exact .refl _ _|exact Nat.le_refl _|refine .alloc ?_ ?_ _|refine .setCell ?_ ?_ _|refine .drew ?_|refine below_drewN ?_ _|assumption|(simp;done)|(simp;omega)))).mono ?_
    rintro e w1 ⟨rfl, b1⟩
    have B1 : Below w.heap.size w w1 := Below.trans (by repeat' first|exact .refl _ _|exact Nat.le_refl _|refine .alloc ?_ ?_ _|refine .setCell ?_ ?_ _|refine .drew ?_|refine below_drewN ?_ _|assumption|(simp;done)|(simp;omega)) (b1.mono (by simp; omega))
    have H1 := Lib.hid B1
    obtain ⟨hcell, hfree⟩ := old_cells b1
    simp only [World.size_alloc] at hcell hfree
    have hz1 := b1.size
    simp only [World.size_alloc] at hz1
    clear b1 B1
    by_cases c3 : t = t'
    case neg =>
      rw [sameB_no c3]
      have C3 := Lib.hid c3
      clear c3
      go_wp2_with fail
      go_ret
      exact ⟨ret_bool (sameG_no (fun e => C3.out (by injection e))).symm, H1.out⟩
    rw [sameB_yes c3]
    have C3 := Lib.hid c3
    clear c3
    go_wp2_with fail
    refine (laws_eqStmtS body body' IB.out bA bA' bc bc' _ (RB.out.belowA H1.out) (RB'.out.belowA H1.out) hb2 hb2' hb3 hb3').mono ?_
    rintro e w2 ⟨rfl, b2⟩
    have H2 := Lib.hid (below_then H1.out b2)
    have u7 : w2.cell? ⟨w.heap.size, 7, none⟩ = some (.slice eA els.length ec) := cell_keep b2 (by rw [hcell _ _ (by omega)]; simp [go_sem])
    have u8 : w2.cell? ⟨w.heap.size + 1, 7, none⟩ = some (.slice eA' els'.length ec') := cell_keep b2 (by rw [hcell _ _ (by omega)]; simp [go_sem])
    clear b2
    by_cases c4 : body = body'
    case neg =>
      rw [samesG_no c4]
      have C4 := Lib.hid c4
      clear c4
      go_wp2_with fail
      go_ret
      exact ⟨ret_bool (sameG_no (fun e => C4.out (by injection e))).symm, H2.out⟩
    rw [samesG_yes c4]
    have C4 := Lib.hid c4
    clear c4
    go_wp2_with fail
    refine (laws_eqStmtS els els' IE.out eA eA' ec ec' _ (RE.out.belowA H2.out) (RE'.out.belowA H2.out) he2 he2' he3 he3').mono ?_
    rintro e w3 ⟨rfl, b3⟩
    have H3 := Lib.hid (below_then H2.out b3)
    clear b3
    by_cases c5 : els = els'
    case neg =>
      rw [samesG_no c5]
      have C5 := Lib.hid c5
      clear c5
      go_wp2_with fail
      go_ret
      exact ⟨ret_bool (sameG_no (fun e => C5.out (by injection e))).symm, H3.out⟩
    rw [samesG_yes c5]
    have C5 := Lib.hid c5
    clear c5
    go_wp2_with fail
    go_ret
    exact ⟨ret_bool (sameG_yes (by rw [C.out.1, C.out.2, C3.out, C4.out, C5.out])).symm, H3.out⟩
def Later (w : World) : Type := { w' : World // Below w.heap.size w w' }
instance later_any (w : World) : Nonempty (Later w) := ⟨⟨w, Below.refl _ _⟩⟩
theorem wp_region_later {P : Program} {id : Nat} {Q : Exit → Act → World → Prop} {a : Act} {w : World} {l : List Oper} (hm : P.follows .mixedOrders = true) (hB : Region.lexB .any l.toArray = true)
    (h : ∀ (g : Later w → World), (∀ n, Below w.heap.size w (g n)) → (∀ n w', Below (g n).heap.size (g n) w' → ∃ m, w' = g m) →
      wpQuiet P l.toArray (fun w' => ∃ n, w' = g n) (fun a' => ∀ w', (∃ n, w' = g n) → Q .normal a' w') l a) : (Code.region id l.toArray true).wp P Q a w :=
  wp_region_quiet (C := fun w' => ∃ n : Later w, w' = n.val) hm hB ⟨⟨_, (Below.refl w.heap.size w).drew⟩, rfl⟩
    (by simpa using h (fun n => n.val) (fun n => n.property) (fun n w' hw => ⟨⟨w', n.property.trans (hw.mono n.property.size)⟩, rfl⟩))
theorem later_of {P : Program} {f : FuncId} {args : Array Value} {w : World} {g : Later w → World} {n : Later w} {v : Value} (HC : Hid (∀ n w', Below (g n).heap.size (g n) w' → ∃ m, w' = g m))
    (h : Calls P f args (g n) fun e w' => e = .returned v ∧ Below (g n).heap.size (g n) w') : Calls P f args (g n) fun e w'' => e = .returned v ∧ ∃ m, w'' = g m :=
  h.mono fun _ _ ⟨he, hb⟩ => ⟨he, HC.out n _ hb⟩
theorem later_bool {P : Program} {f : FuncId} {args : Array Value} {w : World} {g : Later w → World} {n : Later w} {b b' : Bool} (HC : Hid (∀ n w', Below (g n).heap.size (g n) w' → ∃ m, w' = g m)) (hb : b = b')
    (h : Calls P f args (g n) fun e w' => e = .returned (.bool b) ∧ Below (g n).heap.size (g n) w') : Calls P f args (g n) fun e w'' => e = .returned (.bool b') ∧ ∃ m, w'' = g m := by
  subst hb
  exact later_of HC h
structure Pr where
  name : ByteArray
  body : List St
structure Pg where
  globals : List ByteArray
  locks : List ByteArray
  procs : List Pr
structure V2 where
  s : ByteArray
  A : Option Addr
  m : Nat
  c : Nat
def V2.cells (x : V2) : List Value := [.string x.s, .slice x.A x.m x.c]
theorem v2_len (x : V2) : x.cells.length = 2 := rfl
def z2 : V2 := ⟨ByteArray.empty, none, 0, 0⟩
def PrIs (w : World) (x : V2) (p : Pr) : Prop := p.name = x.s ∧ x.m = p.body.length ∧ x.s.size ≤ maxLen ∧ p.body.length ≤ x.c ∧ x.c ≤ maxLen ∧ StRow AnyB w x.A p.body
def PrRow (w : World) (A : Option Addr) (l : List Pr) : Prop := ∃ xs : List V2, xs.length = l.length ∧ Rd w 2 A xs.length (xs.flatMap V2.cells) ∧ ∀ i (h : i < l.length) (h' : i < xs.length), PrIs w xs[i] l[i]
theorem PrIs.belowA {w w' : World} {x : V2} {p : Pr} (h : PrIs w x p) (hb : Below w.heap.size w w') : PrIs w' x p := ⟨h.1, h.2.1, h.2.2.1, h.2.2.2.1, h.2.2.2.2.1, h.2.2.2.2.2.belowA hb⟩
theorem PrRow.belowA {w w' : World} {A : Option Addr} {l : List Pr} (h : PrRow w A l) (hb : Below w.heap.size w w') : PrRow w' A l := by
  obtain ⟨xs, h1, rd, hx⟩ := h
  exact ⟨xs, h1, rd.below hb, fun i h h' => (hx i h h').belowA hb⟩
theorem PrRow.drew {w : World} {A : Option Addr} {l : List Pr} (h : PrRow w A l) : PrRow w.drew A l := h.belowA (Below.refl _ _).drew
theorem rd_proc {w : World} {A : Option Addr} {l : List Pr} (row : PrRow w A l) {k : Nat} (hk : k < l.length) :
    ∃ b off x, A = some ⟨b, off, none⟩ ∧ w.cell? ⟨b, off + k * 2, none⟩ = some (.string x.s) ∧ w.cell? ⟨b, off + k * 2 + 1, none⟩ = some (.slice x.A x.m x.c) ∧ PrIs w x l[k] := by
  obtain ⟨xs, hl, rd, hx⟩ := row
  have hk' : k < xs.length := by omega
  obtain ⟨b, off, e, hc⟩ := rd_flat v2_len rd hk'
  exact ⟨b, off, xs[k], e, hc 0 _ (by decide) rfl, hc 1 _ (by decide) rfl, hx k hk hk'⟩
structure V3 where
  gA : Option Addr
  gc : Nat
  lA : Option Addr
  lc : Nat
  pA : Option Addr
  pc : Nat
def V3.val (x : V3) (p : Pg) : Value := .agg #[.slice x.gA p.globals.length x.gc, .slice x.lA p.locks.length x.lc, .slice x.pA p.procs.length x.pc]
structure PgIs (w : World) (x : V3) (p : Pg) : Prop where
  g1 : p.globals.length ≤ x.gc
  g2 : x.gc ≤ maxLen
  g3 : Rd w 1 x.gA p.globals.length (p.globals.map Value.string)
  g4 : ∀ s ∈ p.globals, s.size ≤ maxLen
  l1 : p.locks.length ≤ x.lc
  l2 : x.lc ≤ maxLen
  l3 : Rd w 1 x.lA p.locks.length (p.locks.map Value.string)
  l4 : ∀ s ∈ p.locks, s.size ≤ maxLen
  p1 : p.procs.length ≤ x.pc
  p2 : x.pc ≤ maxLen
  p3 : PrRow w x.pA p.procs
theorem PgIs.belowA {w w' : World} {x : V3} {p : Pg} (h : PgIs w x p) (hb : Below w.heap.size w w') : PgIs w' x p := ⟨h.g1, h.g2, h.g3.below hb, h.g4, h.l1, h.l2, h.l3.below hb, h.l4, h.p1, h.p2, h.p3.belowA hb⟩
theorem PgIs.drew {w : World} {x : V3} {p : Pg} (h : PgIs w x p) : PgIs w.drew x p := h.belowA (Below.refl _ _).drew
theorem PgIs.gs {w : World} {x : V3} {p : Pg} (h : PgIs w x p) : IsStrs w (.slice x.gA p.globals.length x.gc) p.globals := ⟨_, _, rfl, h.g1, h.g2, h.g3⟩
theorem PgIs.ls {w : World} {x : V3} {p : Pg} (h : PgIs w x p) : IsStrs w (.slice x.lA p.locks.length x.lc) p.locks := ⟨_, _, rfl, h.l1, h.l2, h.l3⟩
def IsProg (w : World) (v : Value) (p : Pg) : Prop := ∃ x : V3, v = x.val p ∧ PgIs w x p
def totPr (p : Pr) : Nat := p.name.size + totGs p.body
def totPrs : List Pr → Nat | [] => 0 | p :: r => 1 + totPr p + totPrs r
def totPg (p : Pg) : Nat := totS p.globals + totS p.locks + totPrs p.procs
theorem totPrs_le {l : List Pr} {x : Pr} (h : x ∈ l) : totPr x ≤ totPrs l := by
  induction l with
  | nil => cases h
  | cons y r ih =>
    rw [totPrs]
    rcases List.mem_cons.1 h with rfl | h
    · omega
    · have := ih h; omega
theorem totPrs_len (l : List Pr) : l.length ≤ totPrs l := by
  induction l with
  | nil => simp
  | cons y r ih => rw [totPrs, List.length_cons]; omega
theorem totPrs_append (l r : List Pr) : totPrs (l ++ r) = totPrs l + totPrs r := by
  induction l with
  | nil => simp [totPrs]
  | cons y t ih => rw [List.cons_append, totPrs, totPrs, ih]; omega
theorem totPrs_take (l : List Pr) (k : Nat) (h : k < l.length) : totPrs (l.take (k + 1)) = totPrs (l.take k) + 1 + totPr l[k] := by
  have e : l.take (k + 1) = l.take k ++ [l[k]] := List.take_succ_eq_append_getElem h
  rw [e, totPrs_append, totPrs, totPrs]; omega
theorem totPrs_drop (l : List Pr) (k : Nat) (h : k ≤ l.length) : totPrs (l.take k) + (l.length - k) ≤ totPrs l := by
  have e : totPrs l = totPrs (l.take k) + totPrs (l.drop k) := by rw [← totPrs_append, List.take_append_drop]
  have := totPrs_len (l.drop k)
  simp at this
  omega
set_option maxRecDepth 100000 in
theorem open_proc_at {H : Type} {enc : TypeId × Value → H} {w : World} {base : Nat} {spare : Nat → Bool} {held : Bool} (fuel : Nat) {cs : List Value} {y : DataW H × List MemPlace} (hf : DataW.trod enc Try.prog w base spare held fuel 110 cs = some y) : ∃ p, ∃ x : V2, cs = x.cells ∧ PrIs w x p := by
  have hl := struct_len Try.underlying110 hf
  obtain ⟨m0, y0, l0, h0⟩ := field_of Try.underlying110 hf 0 _ rfl
  obtain ⟨m1, y1, l1, h1⟩ := field_of Try.underlying110 hf 1 _ rfl
  replace h0 : DataW.trod enc Try.prog w base spare held m0 9 ((cs.drop 0).take (Try.prog.cellsOf 9)) = some y0 := h0
  replace h1 : DataW.trod enc Try.prog w base spare held m1 108 ((cs.drop 1).take (Try.prog.cellsOf 108)) = some y1 := h1
  rw [show Try.prog.cellsOf 110 = 2 from by kernel_rfl] at hl
  rw [show Try.prog.cellsOf 9 = 1 from by kernel_rfl] at h0
  rw [show Try.prog.cellsOf 108 = 1 from by kernel_rfl] at h1
  match cs, hl with
  | [c0, c1], _ =>
    simp only [List.drop_zero, List.drop_succ_cons, List.take_succ_cons, List.take_zero] at h0 h1
    obtain ⟨s1, e1, _, w1⟩ := DataW.trod_string Try.underlying9 h0
    obtain ⟨v3, b3, e3, r3⟩ := open_cells (R := fun cs g => ∃ x : V8, cs = x.cells ∧ StIs AnyB w x g) (by decide) Try.underlying108 (by kernel_rfl : Try.prog.cellsOf 137 = 8) h1 (fun n cs' y' hn hy => open_stmt_at n hy)
    obtain ⟨A3, q3, rfl, hl3, hc3, row3⟩ := stRow_of r3
    simp only [List.cons.injEq, and_true] at e1 e3
    subst e1 e3
    exact ⟨⟨s1, b3⟩, ⟨s1, A3, b3.length, q3⟩, rfl, rfl, rfl, w1, hl3, hc3, row3⟩
theorem prRow_of {w : World} {v : Value} {l : List Pr} (h : IsRowsR 2 (fun cs g => ∃ x : V2, cs = x.cells ∧ PrIs w x g) w v l) : ∃ A c, v = .slice A l.length c ∧ l.length ≤ c ∧ c ≤ maxLen ∧ PrRow w A l := by
  obtain ⟨A, c, cs, rfl, h1, h2, rd, hx⟩ := h
  obtain ⟨xs, hl, hxs⟩ := list_of l.length (fun i (x : V2) => (cs.drop (i * 2)).take 2 = x.cells ∧ ∀ h : i < l.length, PrIs w x l[i]) (fun i hi => by obtain ⟨x, e, hx'⟩ := hx i hi; exact ⟨x, e, fun _ => hx'⟩)
  refine ⟨A, c, rfl, h1, h2, xs, hl, ?_, fun i h h' => (hxs i h').2 h⟩
  have e : cs = xs.flatMap V2.cells := by
    apply List.ext_getElem?
    intro j
    by_cases hj : j < l.length * 2
    · have e1 : j = (j / 2) * 2 + j % 2 := by omega
      have hk : j / 2 < xs.length := by omega
      rw [e1, chunk_get (by omega) (hxs _ hk).1, flat_get V2.cells 2 v2_len _ _ _ hk (by omega)]
    · rw [List.getElem?_eq_none (by rw [rd.1]; omega), List.getElem?_eq_none (by rw [flat_length V2.cells 2 v2_len]; omega)]
  rw [← e, hl]; exact rd
theorem strs_of {w : World} {v : Value} {ss : List ByteArray} (h : IsRowsR 1 (fun cs s => cs = [Value.string s] ∧ s.size ≤ maxLen) w v ss) : (∃ A c, v = .slice A ss.length c ∧ ss.length ≤ c ∧ c ≤ maxLen ∧ Rd w 1 A ss.length (ss.map Value.string)) ∧ ∀ s ∈ ss, s.size ≤ maxLen := by
  obtain ⟨⟨A, c, e, h1, h2, rd⟩, h3⟩ := h.rows (f := fun s => [Value.string s]) (G := fun s => s.size ≤ maxLen)
  refine ⟨⟨A, c, e, h1, h2, ?_⟩, h3⟩
  have e2 : ∀ l : List ByteArray, l.flatMap (fun s => [Value.string s]) = l.map Value.string := by
    intro l
    induction l with
    | nil => rfl
    | cons x r ih => rw [List.flatMap_cons, ih]; rfl
  rwa [e2] at rd
theorem open_str_at {H : Type} {enc : TypeId × Value → H} {w : World} {base : Nat} {spare : Nat → Bool} {held : Bool} {n : Nat} {cs : List Value} {y : DataW H × List MemPlace} (h : DataW.trod enc Try.prog w base spare held n 9 cs = some y) : ∃ s, cs = [Value.string s] ∧ s.size ≤ maxLen := by
  obtain ⟨s1, e1, _, w1⟩ := DataW.trod_string Try.underlying9 h
  exact ⟨s1, e1, w1⟩
set_option maxRecDepth 100000 in
theorem open_prog {H : Type} {enc : TypeId × Value → H} {w : World} {r : Reach} {b0 base : Nat} {spare : Nat → Bool} {held : Bool} {v : Value} {d : DataW H} {p : List MemPlace} (hv : Value.okWide Try.prog w r b0 43 v) (h : DataW.Trod enc Try.prog w base spare held 43 v d p) : ∃ q, IsProg w v q := by
  obtain ⟨cs, rfl, hsz⟩ := Go.WideShapes.okWide_struct Try.underlying43 hv
  obtain ⟨fuel, hf⟩ := h
  have hl := struct_len Try.underlying43 hf
  obtain ⟨m0, y0, l0, h0⟩ := field_of Try.underlying43 hf 0 _ rfl
  obtain ⟨m1, y1, l1, h1⟩ := field_of Try.underlying43 hf 1 _ rfl
  obtain ⟨m2, y2, l2, h2⟩ := field_of Try.underlying43 hf 2 _ rfl
  replace h0 : DataW.trod enc Try.prog w base spare held m0 24 (((Value.agg cs).cells.toList.drop 0).take (Try.prog.cellsOf 24)) = some y0 := h0
  replace h1 : DataW.trod enc Try.prog w base spare held m1 24 (((Value.agg cs).cells.toList.drop 1).take (Try.prog.cellsOf 24)) = some y1 := h1
  replace h2 : DataW.trod enc Try.prog w base spare held m2 41 (((Value.agg cs).cells.toList.drop 2).take (Try.prog.cellsOf 41)) = some y2 := h2
  rw [show Try.prog.cellsOf 43 = 3 from by kernel_rfl] at hl
  rw [show Try.prog.cellsOf 24 = 1 from by kernel_rfl] at h0 h1
  rw [show Try.prog.cellsOf 41 = 1 from by kernel_rfl] at h2
  have hcs : (Value.agg cs).cells.toList = cs.toList := by simp [Value.cells]
  rw [hcs] at hl h0 h1 h2
  generalize hL : cs.toList = L at *
  match L, hl with
  | [c0, c1, c2], _ =>
    simp only [List.drop_zero, List.drop_succ_cons, List.take_succ_cons, List.take_zero] at h0 h1 h2
    obtain ⟨v0, s0, e0, r0⟩ := open_cells (R := fun cs s => cs = [Value.string s] ∧ s.size ≤ maxLen) (by decide) Try.underlying24 (by kernel_rfl : Try.prog.cellsOf 9 = 1) h0 (fun n cs' y' hn hy => open_str_at hy)
    obtain ⟨v1, s1, e1, r1⟩ := open_cells (R := fun cs s => cs = [Value.string s] ∧ s.size ≤ maxLen) (by decide) Try.underlying24 (by kernel_rfl : Try.prog.cellsOf 9 = 1) h1 (fun n cs' y' hn hy => open_str_at hy)
    obtain ⟨v2, s2, e2, r2⟩ := open_cells (R := fun cs g => ∃ x : V2, cs = x.cells ∧ PrIs w x g) (by decide) Try.underlying41 (by kernel_rfl : Try.prog.cellsOf 110 = 2) h2 (fun n cs' y' hn hy => open_proc_at n hy)
    obtain ⟨⟨A0, q0, rfl, a1, a2, a3⟩, a4⟩ := strs_of r0
    obtain ⟨⟨A1, q1, rfl, b1, b2, b3⟩, b4⟩ := strs_of r1
    obtain ⟨A2, q2, rfl, d1, d2, d3⟩ := prRow_of r2
    simp only [List.cons.injEq, and_true] at e0 e1 e2
    subst e0 e1 e2
    refine ⟨⟨s0, s1, s2⟩, ⟨A0, q0, A1, q1, A2, q2⟩, ?_, ⟨a1, a2, a3, a4, b1, b2, b3, b4, d1, d2, d3⟩⟩
    have : cs = #[.slice A0 s0.length q0, .slice A1 s1.length q1, .slice A2 s2.length q2] := by
      apply Array.ext'
      rw [hL]
    rw [this]
    rfl
set_option maxHeartbeats 800000 in
theorem laws_szProc (p : Pr) (x : V2) (w : World) (left : Int) (hp : PrIs w x p) (h0 : 0 ≤ left) (h1 : left ≤ 1048576) :
    Calls Try.prog 81 #[.agg #[.string x.s, .slice x.A x.m x.c], .int .i64 left] w fun e w' => e = .returned (.int .i64 (cut0 (left - (totPr p : Int)))) ∧ Below w.heap.size w w' := by
  obtain ⟨nm, body⟩ := p
  obtain ⟨s, A, m, c⟩ := x
  obtain ⟨e1, e2, hs, hl, hc, row⟩ := hp
  simp only at e1 e2 hs hl hc row
  simp only
  subst e1 e2
  have RW := Lib.hid row
  unfold maxLen at hs
  clear row
  have ht : (totPr ⟨nm, body⟩ : Int) = (nm.size : Int) + (totGs body : Int) := by simp [totPr]
  by_cases g1 : left - (nm.size : Int) < 0
  · have C := Lib.hid (cut0_neg (n := left - (totPr ⟨nm, body⟩ : Int)) (by omega))
    clear ht
    go_enter Try.func81, Try.ntmps81
    go_wp2_with fail
    go_ret
    exact ⟨ret_int C.out.symm, (by repeat' first|exact .refl _ _|exact Nat.le_refl _|refine .alloc ?_ ?_ _|refine .setCell ?_ ?_ _|refine .drew ?_|refine below_drewN ?_ _|assumption|(simp;done)|(simp;omega))⟩
  have g2 : 0 ≤ left - (nm.size : Int) := by omega
  by_cases g3 : left - (nm.size : Int) - (totGs body : Int) < 0
  · have C := Lib.hid (cut0_neg (n := left - (totPr ⟨nm, body⟩ : Int)) (by omega))
    have C2 := Lib.hid (cut0_neg g3)
    clear ht g1
    go_enter Try.func81, Try.ntmps81
    go_wp2_with fail
    refine (laws_szStmtS body (fun g _ => laws_szStmt g) A c _ _ (RW.out.belowA (by repeat' first|exact .refl _ _|exact Nat.le_refl _|refine .alloc ?_ ?_ _|refine .setCell ?_ ?_ _|refine .drew ?_|refine below_drewN ?_ _|assumption|(simp;done)|(simp;omega))) hl hc (by omega) (by omega)).mono ?_
    rintro e w1 ⟨rfl, b1⟩
    have B1 : Hid (Below w.heap.size w w1) := Lib.hid (Below.trans (by repeat' first|exact .refl _ _|exact Nat.le_refl _|refine .alloc ?_ ?_ _|refine .setCell ?_ ?_ _|refine .drew ?_|refine below_drewN ?_ _|assumption|(simp;done)|(simp;omega)) (b1.mono (by simp)))
    rw [C2.out]
    clear b1
    go_wp2_with fail
    go_ret
    exact ⟨ret_int C.out.symm, B1.out⟩
  · have C := Lib.hid (cut0_pos (n := left - (totPr ⟨nm, body⟩ : Int)) (by omega))
    have C2 := Lib.hid (cut0_pos (n := left - (nm.size : Int) - (totGs body : Int)) (by omega))
    have HT := Lib.hid ht
    have g4 : 0 ≤ left - (nm.size : Int) - (totGs body : Int) := by omega
    clear ht g1
    go_enter Try.func81, Try.ntmps81
    go_wp2_with fail
    refine (laws_szStmtS body (fun g _ => laws_szStmt g) A c _ _ (RW.out.belowA (by repeat' first|exact .refl _ _|exact Nat.le_refl _|refine .alloc ?_ ?_ _|refine .setCell ?_ ?_ _|refine .drew ?_|refine below_drewN ?_ _|assumption|(simp;done)|(simp;omega))) hl hc (by omega) (by omega)).mono ?_
    rintro e w1 ⟨rfl, b1⟩
    have B1 : Hid (Below w.heap.size w w1) := Lib.hid (Below.trans (by repeat' first|exact .refl _ _|exact Nat.le_refl _|refine .alloc ?_ ?_ _|refine .setCell ?_ ?_ _|refine .drew ?_|refine below_drewN ?_ _|assumption|(simp;done)|(simp;omega)) (b1.mono (by simp)))
    rw [C2.out]
    clear b1
    go_wp2_with fail
    go_ret
    exact ⟨ret_int (by rw [C.out, HT.out]; omega), B1.out⟩
set_option maxHeartbeats 800000 in
theorem laws_szProcS (l : List Pr) (A : Option Addr) (c : Nat) (w : World) (left : Int) (row : PrRow w A l) (hl : l.length ≤ c) (hc : c ≤ maxLen) (h0 : 0 ≤ left) (h1 : left ≤ 1048576) :
    Calls Try.prog 44 #[.slice A l.length c, .int .i64 left] w fun e w' => e = .returned (.int .i64 (cut0 (left - (totPrs l : Int)))) ∧ Below w.heap.size w w' := by
  unfold maxLen at hc
  have RW := Lib.hid row
  have hlen := totPrs_len l
  clear row
  by_cases g0 : left - (l.length : Int) < 0
  · have C := Lib.hid (cut0_neg (n := left - (totPrs l : Int)) (by omega))
    go_enter Try.func44, Try.ntmps44
    go_wp2_with fail
    go_ret
    exact ⟨ret_int C.out.symm, Below.refl _ _⟩
  have g1 : 0 ≤ left - (l.length : Int) := by omega
  go_enter Try.func44, Try.ntmps44
  go_wp2_with fail
  go_loopw [1, 5] (fun m i wr => ∃ k : Nat, k ≤ l.length ∧ i = .int .i64 k ∧ (∃ z : Int, 0 ≤ z ∧ z ≤ 1048576 ∧ m = .int .i64 z ∧ Hid (z = left - (l.length : Int) - ((totPrs (l.take k) : Int) - (k : Int)))) ∧ Below w.heap.size w wr) (fun _ i _ => l.length - (intOf i).toNat)
  case atStart => exact ⟨0, Nat.zero_le _, rfl, ⟨_, g1, by omega, rfl, Lib.hid (by simp [totPrs])⟩, Below.refl _ _⟩
  case round =>
    obtain ⟨k, hk, rfl, ⟨z, hz0, hz1, rfl, HZ⟩, hb⟩ := hrel
    have HB := Lib.hid hb
    clear hb
    by_cases hlt : k < l.length
    · obtain ⟨b, off, x, rfl, d0, d1, hp⟩ := rd_proc (RW.out.belowA HB.out) hlt
      have HP := Lib.hid hp
      have h0k : (0 : Int) ≤ (k : Int) := by omega
      have ht := totPrs_take l k hlt
      have hd := totPrs_drop l (k + 1) hlt
      have hz := HZ.out
      clear hp
      by_cases g : z - (totPr l[k] : Int) < 0
      · have C := Lib.hid (cut0_neg (n := left - (totPrs l : Int)) (by omega))
        have C2 := Lib.hid (cut0_neg g)
        clear ht hd hz
        go_wp2_with fail
        refine (laws_szProc l[k] x _ z HP.out hz0 hz1).mono ?_
        rintro e w1 ⟨rfl, b1⟩
        have B1 := Lib.hid (below_then HB.out b1)
        rw [C2.out]
        clear b1
        go_wp2_with fail
        go_ret
        exact ⟨ret_int C.out.symm, B1.out⟩
      · have C2 := Lib.hid (cut0_pos (n := z - (totPr l[k] : Int)) (by omega))
        have g' : 0 ≤ z - (totPr l[k] : Int) := by omega
        have HN : Hid (z - (totPr l[k] : Int) = left - (l.length : Int) - ((totPrs (l.take (k + 1)) : Int) - ((k + 1 : Nat) : Int))) := Lib.hid (by omega)
        clear ht hd hz g
        go_wp2_with fail
        refine (laws_szProc l[k] x _ z HP.out hz0 hz1).mono ?_
        rintro e w1 ⟨rfl, b1⟩
        have B1 := Lib.hid (below_then HB.out b1)
        rw [C2.out]
        clear b1
        go_wp2_with fail
        go_roundw
        case rel => exact ⟨k + 1, by omega, by go_num, ⟨_, g', by omega, rfl, Lib.hid HN.out⟩, B1.out⟩
        case measure => simp [intOf]; omega
    · have hz := HZ.out
      rw [List.take_of_length_le (by omega)] at hz
      have C := Lib.hid (cut0_pos (n := left - (totPrs l : Int)) (by omega))
      have HE : Hid (z = left - (totPrs l : Int)) := Lib.hid (by omega)
      clear hz
      go_wp2_with fail
      go_ret
      exact ⟨ret_int (by rw [C.out, HE.out]), HB.out⟩
end Go.Proofs.Ytadcebdhgocmhaa
