/- Lemmas for the row. -/
import Derived.Test.YtnmblfonmfjoeaaGreatDoorKc42
import Derived.Lib.BufferMore
namespace Go.Proofs.YtnmblfonmfjoeaaGreatDoor
open Go.RowKit
set_option maxHeartbeats 1600000
set_option linter.unusedVariables false
theorem laws_sameTextsS (v u : Value) (ss : List ByteArray) (w : World) (h : IsStrs w v ss) (h' : IsStrs w u ss) :
  Calls Tryz.prog 27 #[v, u] w fun e w' => e = .returned (.bool true) ∧ Qt w w' := by
 obtain ⟨A, c, rfl, h2, h3, rd⟩ := h
 obtain ⟨A', c', rfl, h2', h3', rd'⟩ := h'
 unfold maxLen at h3 h3'
 have RD := qh rd
 have RD' := qh rd'
 clear rd rd'
 have g1 : ((ss.length : Int) != (ss.length : Int)) = false := by simp
 go_enter Tryz.func27, Tryz.ntmps27
 go_wp2_with fail
 go_loopw [5] (fun i wr => ∃ (k m : Nat), k ≤ ss.length ∧ i = .int .i64 k ∧ wr = w.drewN m) (fun i _ => ss.length - (intOf i).toNat)
 case atStart => exact ⟨0, 0, Nat.zero_le _, rfl, rfl⟩
 case round =>
  obtain ⟨k, m, hk, rfl, rfl⟩ := hrel
  by_cases hlt : k < ss.length
  ·obtain ⟨b, off, rfl, hcell⟩ := rd_str RD.out hlt
   obtain ⟨b', off', rfl, hcell'⟩ := rd_str RD'.out hlt
   have h0k : (0 : Int) ≤ (k : Int) := by omega
   have h1k : (k : Int) < (ss.length : Int) := by omega
   have q := str_eq ss[k] ss[k]
   rw [decide_eq_true rfl] at q
   go_wp2_with fail
   go_quiet (fail)
   go_wp2_with fail
   go_roundw
   case rel => exact ⟨k + 1, _, by omega, by go_num, rfl⟩
   case measure => simp [intOf]; omega
  ·go_wp2_with fail
   go_ret
   exact ⟨rfl, Qt.of_drewN _ _⟩
theorem laws_sameInts (v u : Value) (ss : List Int) (w : World) (h : IsInts w v ss) (h' : IsInts w u ss) :
  Calls Tryz.prog 28 #[v, u] w fun e w' => e = .returned (.bool true) ∧ Qt w w' := by
 obtain ⟨A, c, rfl, h2, h3, rd⟩ := h
 obtain ⟨A', c', rfl, h2', h3', rd'⟩ := h'
 unfold maxLen at h3 h3'
 have RD := qh rd
 have RD' := qh rd'
 clear rd rd'
 have g1 : ((ss.length : Int) != (ss.length : Int)) = false := by simp
 go_enter Tryz.func28, Tryz.ntmps28
 go_wp2_with fail
 go_loopw [5] (fun i wr => ∃ (k m : Nat), k ≤ ss.length ∧ i = .int .i64 k ∧ wr = w.drewN m) (fun i _ => ss.length - (intOf i).toNat)
 case atStart => exact ⟨0, 0, Nat.zero_le _, rfl, rfl⟩
 case round =>
  obtain ⟨k, m, hk, rfl, rfl⟩ := hrel
  by_cases hlt : k < ss.length
  ·obtain ⟨b, off, rfl, hcell⟩ := rd_int RD.out hlt
   obtain ⟨b', off', rfl, hcell'⟩ := rd_int RD'.out hlt
   have h0k : (0 : Int) ≤ (k : Int) := by omega
   have h1k : (k : Int) < (ss.length : Int) := by omega
   have q : (ss[k] != ss[k]) = false := by simp
   go_wp2_with fail
   go_quiet (fail)
   go_wp2_with fail
   go_roundw
   case rel => exact ⟨k + 1, _, by omega, by go_num, rfl⟩
   case measure => simp [intOf]; omega
  ·go_wp2_with fail
   go_ret
   exact ⟨rfl, Qt.of_drewN _ _⟩
theorem laws_sameIns (p : Ic) (x y : V7) (w : World) (hp : IcIs AnyB w x p) (hq : IcIs AnyB w y p) :
  Calls Tryz.prog 62 #[.agg #[.int .i64 x.op, .int .i64 x.arg, .int .i64 x.k, .int .i64 x.n, .string x.s, .slice x.A x.m x.c, .int .i64 x.to], .agg #[.int .i64 y.op, .int .i64 y.arg, .int .i64 y.k, .int .i64 y.n, .string y.s, .slice y.A y.m y.c, .int .i64 y.to]] w fun e w' => e = .returned (.bool true) ∧ Below w.heap.size w w' := by
 obtain ⟨op, arg, t, to6⟩ := p
 obtain ⟨xo, xa, k, n, s, A, m, c, xt⟩ := x
 obtain ⟨yo, ya, k', n', s', A', m', c', yt⟩ := y
 obtain ⟨rfl, rfl, rfl, _, _, _, ht⟩ := hp
 obtain ⟨e1, e2, e3, _, _, _, ht'⟩ := hq
 simp only at e1 e2 e3
 subst e1 e2 e3
 simp only [V7.term] at *
 have HT := qh ht
 have HT' := qh ht'
 clear ht ht'
 go_enter Tryz.func62, Tryz.ntmps62
 go_wp2_with fail
 refine (laws_sameTerm t k n s A m c k' n' s' A' m' c' _ (HT.out.belowA zB) (HT'.out.belowA zB)).mono ?_
 rintro e w1 ⟨rfl, b1⟩
 have H1 : Hid (Below w.heap.size w w1) := qh (Below.trans zB (b1.mono (by simp; omega)))
 obtain ⟨hcell, hfree⟩ := old_cells b1
 simp only [World.size_alloc] at hcell hfree
 clear b1
 go_wp2_with fail
 go_ret
 exact ⟨rfl, H1.out⟩
theorem laws_sameInss (ss : List Ic) (A A' : Option Addr) (c c' : Nat) (w : World) (row : IcRow AnyB w A ss) (row' : IcRow AnyB w A' ss) (hl : ss.length ≤ c) (hl' : ss.length ≤ c') (hc : c ≤ maxLen) (hc' : c' ≤ maxLen) :
  Calls Tryz.prog 29 #[.slice A ss.length c, .slice A' ss.length c'] w fun e w' => e = .returned (.bool true) ∧ Below w.heap.size w w' := by
 unfold maxLen at hc hc'
 have RW := qh row
 have RW' := qh row'
 clear row row'
 have g1 : ((ss.length : Int) != (ss.length : Int)) = false := by simp
 go_enter Tryz.func29, Tryz.ntmps29
 go_wp2_with fail
 go_loopw [5] (fun i wr => ∃ k : Nat, k ≤ ss.length ∧ i = .int .i64 k ∧ Below w.heap.size w wr) (fun i _ => ss.length - (intOf i).toNat)
 case atStart => exact ⟨0, Nat.zero_le _, rfl, Below.refl _ _⟩
 case round =>
  obtain ⟨j, hj, rfl, hb⟩ := hrel
  have HB := qh hb
  clear hb
  by_cases hlt : j < ss.length
  case neg =>
   go_wp2_with fail
   go_ret
   exact ⟨rfl, HB.out⟩
  obtain ⟨b, off, x, rfl, _, ⟨d0, d1, d2, d3, d4, d5, d6⟩, hp⟩ := rd_ins (RW.out.belowA HB.out) hlt
  obtain ⟨b', off', y, rfl, _, ⟨e0, e1, e2, e3, e4, e5, e6⟩, hq⟩ := rd_ins (RW'.out.belowA HB.out) hlt
  have T1 := qh hp
  have T2 := qh hq
  have h0k : (0 : Int) ≤ (j : Int) := by omega
  have h1k : (j : Int) < (ss.length : Int) := by omega
  clear hp hq
  go_wp2_with fail
  refine wp_region_later (by kernel_rfl) (by kernel_rfl) ?_
  intro gw hgw hcw
  have HG := qh hgw
  have HC := qh hcw
  clear hgw hcw
  have d0' : ∀ n, (gw n).cell? ⟨b, off + j * 7, none⟩ = some (.int .i64 x.op) := fun n => cell_keep (HG.out n) d0
  have d1' : ∀ n, (gw n).cell? ⟨b, off + j * 7 + 1, none⟩ = some (.int .i64 x.arg) := fun n => cell_keep (HG.out n) d1
  have d2' : ∀ n, (gw n).cell? ⟨b, off + j * 7 + 2, none⟩ = some (.int .i64 x.k) := fun n => cell_keep (HG.out n) d2
  have d3' : ∀ n, (gw n).cell? ⟨b, off + j * 7 + 3, none⟩ = some (.int .i64 x.n) := fun n => cell_keep (HG.out n) d3
  have d4' : ∀ n, (gw n).cell? ⟨b, off + j * 7 + 4, none⟩ = some (.string x.s) := fun n => cell_keep (HG.out n) d4
  have d5' : ∀ n, (gw n).cell? ⟨b, off + j * 7 + 5, none⟩ = some (.slice x.A x.m x.c) := fun n => cell_keep (HG.out n) d5
  have d6' : ∀ n, (gw n).cell? ⟨b, off + j * 7 + 6, none⟩ = some (.int .i64 x.to) := fun n => cell_keep (HG.out n) d6
  have e0' : ∀ n, (gw n).cell? ⟨b', off' + j * 7, none⟩ = some (.int .i64 y.op) := fun n => cell_keep (HG.out n) e0
  have e1' : ∀ n, (gw n).cell? ⟨b', off' + j * 7 + 1, none⟩ = some (.int .i64 y.arg) := fun n => cell_keep (HG.out n) e1
  have e2' : ∀ n, (gw n).cell? ⟨b', off' + j * 7 + 2, none⟩ = some (.int .i64 y.k) := fun n => cell_keep (HG.out n) e2
  have e3' : ∀ n, (gw n).cell? ⟨b', off' + j * 7 + 3, none⟩ = some (.int .i64 y.n) := fun n => cell_keep (HG.out n) e3
  have e4' : ∀ n, (gw n).cell? ⟨b', off' + j * 7 + 4, none⟩ = some (.string y.s) := fun n => cell_keep (HG.out n) e4
  have e5' : ∀ n, (gw n).cell? ⟨b', off' + j * 7 + 5, none⟩ = some (.slice y.A y.m y.c) := fun n => cell_keep (HG.out n) e5
  have e6' : ∀ n, (gw n).cell? ⟨b', off' + j * 7 + 6, none⟩ = some (.int .i64 y.to) := fun n => cell_keep (HG.out n) e6
  clear d0 d1 d2 d3 d4 d5 d6 e0 e1 e2 e3 e4 e5 e6
  repeat (go_big_quiet_step ((first | (go_at_call 62; exact later_of HC (laws_sameIns _ x y _ (T1.out.belowA (HG.out _)) (T2.out.belowA (HG.out _)))))))
  refine wpQuiet_nil ?_
  intro _ hw'
  obtain ⟨nq, hw''⟩ := hw'
  subst hw''
  go_wp2_with fail
  go_roundw
  case rel => exact ⟨j + 1, by omega, by go_num, below_then HB.out (HG.out _)⟩
  case measure => simp [intOf]; omega
theorem laws_sameCode (p : Cd) (x y : V5) (w : World) (hp : CdIs w x p) (hq : CdIs w y p) :
  Calls Tryz.prog 9 #[x.val p, y.val p] w fun e w' => e = .returned (.bool true) ∧ Below w.heap.size w w' := by
 obtain ⟨gs, ls, ps, es, is⟩ := p
 obtain ⟨gA, gc, lA, lc, pA, pc, eA, ec, iA, ic⟩ := x
 obtain ⟨gA', gc', lA', lc', pA', pc', eA', ec', iA', ic'⟩ := y
 have HP := qh hp
 have HQ := qh hq
 have a1 := hp.i1
 have a2 := hp.i2
 have a1' := hq.i1
 have a2' := hq.i2
 simp only at a1 a2 a1' a2'
 unfold V5.val
 simp only
 clear hp hq
 go_enter Tryz.func9, Tryz.ntmps9
 go_wp2_with fail
 refine (laws_sameTextsS _ _ gs _ (HP.out.gs.below zB) (HQ.out.gs.below zB)).mono ?_
 rintro e w1 ⟨rfl, n1, rfl⟩
 go_wp2_with fail
 refine (laws_sameTextsS _ _ ls _ (HP.out.ls.below zB) (HQ.out.ls.below zB)).mono ?_
 rintro e w1 ⟨rfl, n2, rfl⟩
 go_wp2_with fail
 refine (laws_sameTextsS _ _ ps _ (HP.out.ps.below zB) (HQ.out.ps.below zB)).mono ?_
 rintro e w1 ⟨rfl, n3, rfl⟩
 go_wp2_with fail
 refine (laws_sameInts _ _ es _ (HP.out.es.below zB) (HQ.out.es.below zB)).mono ?_
 rintro e w1 ⟨rfl, n4, rfl⟩
 go_wp2_with fail
 refine (laws_sameInss is iA iA' ic ic' _ (HP.out.i3.belowA zB) (HQ.out.i3.belowA zB) a1 a1' a2 a2').mono ?_
 rintro e w3 ⟨rfl, b3⟩
 have B3 : Hid (Below w.heap.size w w3) := qh (Below.trans zB (b3.mono (by simp; omega)))
 clear b3
 go_wp2_with fail
 go_ret
 exact ⟨rfl, B3.out⟩
def RetSO (w : World) (ss : List ByteArray) (e : Ending) (w' : World) : Prop := ∃ A c, e = .returned (.slice A ss.length c) ∧ ss.length ≤ c ∧ c ≤ maxLen ∧ StrRowO w' (Made w w') A ss ∧ Below w.heap.size w w'
theorem nil_rowO (w : World) (F : Nat → Prop) (A : Option Addr) : StrRowO w F A [] := ⟨[], fun _ _ => False, RowO.nil _ _ _ _ _, fun i h => absurd h (by simp)⟩
theorem clone_row {w w2 : World} {T : TypeId} {v' : Value} {ss : List ByteArray} (own : Own w w2 9 1 v' ss.length (ss.map Value.string)) (hs : ∀ s ∈ ss, s.size ≤ maxLen) : ∃ A c, v' = .slice A ss.length c ∧ ss.length ≤ c ∧ c ≤ maxLen ∧ StrRowO w2 (Made w w2) A ss := by
 obtain ⟨A, c, rfl, hc⟩ := own.slice
 exact ⟨A, c, rfl, hc, own_cap own.1, OwnStrs.rowO (w0 := w) (c := c) own hs⟩
set_option maxRecDepth 100000 in
theorem slices_Clone (A : Option Addr) (c : Nat) (ss : List ByteArray) (w : World) (hl : ss.length ≤ c) (hc : c ≤ maxLen) (rd : Rd w 1 A ss.length (ss.map Value.string)) (hs : ∀ s ∈ ss, s.size ≤ maxLen) (hn : ss.length ≤ 100000) :
  Calls Tryz.prog 17 #[.slice A ss.length c] w (RetSO w ss) := by
 have RD := qh rd
 have HS := qh hs
 clear rd hs
 cases A with
 | none =>
  have h0 : ss = [] := by
   rcases Nat.eq_zero_or_pos ss.length with h | h
   ·exact List.length_eq_zero_iff.1 h
   ·obtain ⟨b, off, e, _⟩ := RD.out.2 h; cases e
  subst h0
  have hq := Lib.run_eql_slice_nil_nil (P := Tryz.prog) w 0 c Tryz.underlying24
  go_enter Tryz.func17, Tryz.ntmps17
  go_wp2_with fail
  go_ret
  exact ⟨none, 0, rfl, Nat.le_refl _, by simp [maxLen], nil_rowO _ _ _, Below.refl _ _⟩
 | some a =>
  have OE : Hid (Own w (w.alloc (.cells #[] 9)) 9 1 (.slice (some ⟨w.heap.size, 0, none⟩) 0 0) 0 []) := qh ⟨World.ownsRow_lit w #[] 0 (Nat.le_refl _) (by simp [maxLen]) (by simp), Below.alloc (Below.refl _ _) (Nat.le_refl _) _⟩
  have RE : Hid (Rd (w.alloc (.cells #[] 9)) 1 (some a) ss.length (ss.map Value.string)) := qh (RD.out.below (Below.alloc (Below.refl _ _) (Nat.le_refl _) _))
  have h1 : 0 + ss.length ≤ maxLen := by unfold maxLen at *; omega
  have h2 : (0 + ss.length) * 16 ≤ 140737488355328 := by omega
  have hq := Lib.run_eql_slice_some_nil (P := Tryz.prog) w a ss.length c Tryz.underlying24
  go_enter Tryz.func17, Tryz.ntmps17
  go_wp2_with (at_builtin; refine wpList_appG rfl _ _ _ rfl strT rfl OE.out (some a) ss.length c (ss.map Value.string) rfl RE.out (by intro u hu; obtain ⟨s, _, rfl⟩ := List.mem_map.1 hu; rfl) h1 h2 ?_; intro v' w2 own gr; rw [Nat.zero_add, List.nil_append] at own; have OW := qh own; clear own gr)
  go_ret
  obtain ⟨A', c', rfl, q1, q2, q3⟩ := clone_row (T := 0) OW.out HS.out
  exact ⟨A', c', rfl, q1, q2, q3, OW.out.2⟩
def RetCO (w : World) (r : Cd × Bool) (e : Ending) (w' : World) : Prop := ∃ x : V5, e = .returned (.tuple #[x.val r.1, .bool r.2]) ∧ CdO w' (Made w w') x r.1 ∧ Below w.heap.size w w'
theorem s5_all {w : World} {g : Nat} {a b c d e : Value} {T : TypeId} (h : w.heap[g]? = some (.cells #[a, b, c, d, e] T (0, 0))) (x y z u v : Value) : (((((w.setCell ⟨g, 0, none⟩ x).setCell ⟨g, 1, none⟩ y).setCell ⟨g, 2, none⟩ z).setCell ⟨g, 3, none⟩ u).setCell ⟨g, 4, none⟩ v).heap[g]? = some (.cells #[x, y, z, u, v] T (0, 0)) := by simp [World.setCell, Array.getElem?_modify, h]
theorem s5_3 {w : World} {g : Nat} {a b c d e : Value} {T : TypeId} (h : w.heap[g]? = some (.cells #[a, b, c, d, e] T (0, 0))) (u : Value) : (w.setCell ⟨g, 3, none⟩ u).heap[g]? = some (.cells #[a, b, c, u, e] T (0, 0)) := by simp [World.setCell, Array.getElem?_modify, h]
theorem box5f {w : World} {g : Nat} {a b c d e : Value} {T : TypeId} (h : w.heap[g]? = some (.cells #[a, b, c, d, e] T (0, 0))) : w.frozen? ⟨g, 0, none⟩ = false ∧ w.frozen? ⟨g, 1, none⟩ = false ∧ w.frozen? ⟨g, 2, none⟩ = false ∧ w.frozen? ⟨g, 3, none⟩ = false ∧ w.frozen? ⟨g, 4, none⟩ = false :=
 ⟨Lib.frozen_of_heap h 0, Lib.frozen_of_heap h 1, Lib.frozen_of_heap h 2, Lib.frozen_of_heap h 3, Lib.frozen_of_heap h 4⟩
theorem five_below {n : Nat} {w0 w : World} {g : Nat} (h : Below n w0 w) (hg : n ≤ g) (x y z u v : Value) : Below n w0 (((((w.setCell ⟨g, 0, none⟩ x).setCell ⟨g, 1, none⟩ y).setCell ⟨g, 2, none⟩ z).setCell ⟨g, 3, none⟩ u).setCell ⟨g, 4, none⟩ v) :=
 ((((h.setCell (p := ⟨g, 0, none⟩) hg _).setCell (p := ⟨g, 1, none⟩) hg _).setCell (p := ⟨g, 2, none⟩) hg _).setCell (p := ⟨g, 3, none⟩) hg _).setCell (p := ⟨g, 4, none⟩) hg _
theorem box3P {w : World} {g : Nat} {a b c : Value} {T : TypeId} (h : w.heap[g]? = some (.cells #[a, b, c] T (0, 0))) : w.cell? ⟨g, 0, none⟩ = some a ∧ w.cell? ⟨g, 1, none⟩ = some b ∧ w.cell? ⟨g, 2, none⟩ = some c :=
 ⟨by rw [Lib.cell_of_heap h]; rfl, by rw [Lib.cell_of_heap h]; rfl, by rw [Lib.cell_of_heap h]; rfl⟩
theorem sp3_of {w1 w : World} {b : Nat} {x y z : Value} (h0 : w1.cell? ⟨b, 0, none⟩ = some x) (h1 : w1.cell? ⟨b, 1, none⟩ = some y) (h2 : w1.cell? ⟨b, 2, none⟩ = some z) (hb : b < w1.heap.size) (B : Below w1.heap.size w1 w) : w.cell? ⟨b, 0, none⟩ = some x ∧ w.cell? ⟨b, 1, none⟩ = some y ∧ w.cell? ⟨b, 2, none⟩ = some z ∧ Below w1.heap.size w1 w :=
 ⟨(B.cell (p := ⟨b, 0, none⟩) hb).trans h0, (B.cell (p := ⟨b, 1, none⟩) hb).trans h1, (B.cell (p := ⟨b, 2, none⟩) hb).trans h2, B⟩
theorem pnames_size {w : World} {x : V3} {p : Pg} (h : PgIs w x p) : ∀ s ∈ pnames p.procs, s.size ≤ maxLen := by
 intro s hs
 obtain ⟨q, hq, rfl⟩ := List.mem_map.1 hs
 obtain ⟨i, hi, rfl⟩ := List.getElem_of_mem hq
 obtain ⟨b, off, y, _, _, _, hy⟩ := rd_proc h.p3 hi
 rw [hy.1]
 exact hy.2.2.1
structure CoN (w1 wx : World) (kb base : Nat) (gA lA pA : Option Addr) (gc lc pc : Nat) (p : Pg) : Prop where
 hg : p.globals.length ≤ gc ∧ gc ≤ maxLen
 hl : p.locks.length ≤ lc ∧ lc ≤ maxLen
 hp : (pnames p.procs).length ≤ pc ∧ pc ≤ maxLen
 rows : ∃ H : Nat → Nat → Prop, (∀ i b, H i b → w1.heap.size ≤ b ∧ b < base ∧ b ≠ kb) ∧ (∀ i j b, i ≠ j → H i b → H j b → False) ∧ StrRowO wx (H 0) gA p.globals ∧ StrRowO wx (H 1) lA p.locks ∧ StrRowO wx (H 2) pA (pnames p.procs)
theorem CoN.keep {w1 wx wy : World} {kb base : Nat} {gA lA pA : Option Addr} {gc lc pc : Nat} {p : Pg} (h : CoN w1 wx kb base gA lA pA gc lc pc p) (hk : ∀ b, w1.heap.size ≤ b → b < base → b ≠ kb → wy.heap[b]? = wx.heap[b]?) : CoN w1 wy kb base gA lA pA gc lc pc p := by
 obtain ⟨a, b, c, H, h1, h2, r0, r1, r2⟩ := h
 have hh : ∀ i b, H i b → wy.heap[b]? = wx.heap[b]? := fun i b hb => hk b (h1 i b hb).1 (h1 i b hb).2.1 (h1 i b hb).2.2
 exact ⟨a, b, c, H, h1, h2, r0.keep fun b hb => hh 0 b hb, r1.keep fun b hb => hh 1 b hb, r2.keep fun b hb => hh 2 b hb⟩
theorem strsF_of {F : Nat → Prop} {w : World} {A : Option Addr} {c : Nat} {ss : List ByteArray} {H : Nat → Prop} (r : StrRowO w H A ss) (hl : ss.length ≤ c) (hc : c ≤ maxLen) (hF : ∀ b, b < w.heap.size → H b → F b) : StrsF F w (.slice A ss.length c) ss := by
 refine ⟨A, c, rfl, hl, hc, r.rd.1, fun b off e hn => ?_⟩
 obtain ⟨cs, G, row, _⟩ := r
 subst e
 obtain ⟨h1, h2, _⟩ := row.lt hn
 exact hF b h1 h2
theorem ints_rowO {base : Nat} {w : World} {A : Option Addr} {c : Nat} {zs : List Int} (h : OwnX base w 3 1 (.slice A zs.length c) zs.length (zs.map (Value.int .i64))) (hz : ∀ z ∈ zs, i64in z) : IntRowO w (fun b => base ≤ b ∧ b < w.heap.size ∧ (Value.slice A zs.length c).ownBlock = some b) A zs := by
 refine ⟨zs.map (Value.int .i64), fun _ _ => False, ⟨Own.rd h.own, fun hn => ?_, fun i b _ hg => hg.elim, fun i j b _ _ _ hg => hg.elim⟩, fun i hi => ⟨?_, hz _ (List.getElem_mem hi)⟩⟩
 ·rcases h.1.2 with ⟨he, h0⟩ | ⟨g, cap, cur, he, hb, hg, _⟩
  ·omega
  ·injection he with he
   subst he
   exact ⟨g, 0, cur, _, rfl, ⟨hb, lt_of_block hg, rfl⟩, hg, fun _ _ hf => hf⟩
 ·apply List.ext_getElem?
  intro j
  rw [List.getElem?_take]
  by_cases hj : j < 1
  ·have : j = 0 := by omega
   subst this
   rw [if_pos (by omega), List.getElem?_drop]
   simp [hi]
  ·rw [if_neg hj, List.getElem?_eq_none (by simp; omega)]
theorem intX_cap {base : Nat} {w : World} {A : Option Addr} {n c : Nat} {xs : List Value} (h : OwnX base w 3 1 (.slice A n c) n xs) : n ≤ c ∧ c ≤ maxLen := by
 obtain ⟨A', c', e, hc⟩ := own_slice h.1
 injection e with _ _ e
 subst e
 exact ⟨hc, own_cap h.1⟩
def CoS (wx wr : World) (kb base : Nat) (gA lA pA : Option Addr) (gc lc pc : Nat) (p : Pg) (T : TypeId) (j : Nat) : Prop :=
 ∃ eA ec iA n ic, wr.heap[kb]? = some (.cells #[.slice gA p.globals.length gc, .slice lA p.locks.length lc, .slice pA (pnames p.procs).length pc, .slice eA j ec, .slice iA n ic] T (0, 0)) ∧
  OwnX base wr 3 1 (.slice eA j ec) j ((entR (envP p) 0 (p.procs.take j)).map (Value.int .i64)) ∧
  GrwI base (fun b => (Value.slice eA j ec).ownBlock = some b) wr (.slice iA n ic) (insR (envP p) 0 (p.procs.take j)) ∧ Keep (fun b => b < base ∧ b ≠ kb) wx wr
theorem ent_in {e : Env} {l : List Pr} {n : Nat} (h : ∀ q ∈ l, snodess q.body ≤ 60) (hn : n + 121 * l.length ≤ 1000000) : ∀ z ∈ entR e n l, i64in z := by
 induction l generalizing n with
 | nil => intro z hz; simp [entR] at hz
 | cons a r ih =>
  intro z hz
  rw [entR] at hz
  rcases List.mem_cons.1 hz with rfl | hz
  ·unfold i64in; omega
  ·have h1 := emSs_len e n a.body
   have h2 := h a (by simp)
   rw [List.length_cons] at hn
   exact ih (fun q hq => h q (by simp [hq])) (by omega) z hz
theorem CoS.code {w0 w1 wx wr : World} {kb base : Nat} {gA lA pA : Option Addr} {gc lc pc : Nat} {p : Pg} {T : TypeId} (hN : CoN w1 wr kb base gA lA pA gc lc pc p) (h : CoS wx wr kb base gA lA pA gc lc pc p T p.procs.length) (hw : w0.heap.size ≤ w1.heap.size) (hkb : w1.heap.size ≤ kb) (hkb2 : kb < base) (hf : faultR p = 0) :
  ∃ eA ec iA ic, wr.heap[kb]? = some (.cells (V5.cells ⟨gA, gc, lA, lc, pA, pc, eA, ec, iA, ic⟩ (codeP p)).toArray T (0, 0)) ∧ CdO wr (fun b => w0.heap.size ≤ b ∧ b < wr.heap.size ∧ b ≠ kb) ⟨gA, gc, lA, lc, pA, pc, eA, ec, iA, ic⟩ (codeP p) := by
 obtain ⟨eA, ec, iA, n, ic, hb, he, hi, _⟩ := h
 rw [List.take_length] at he hi
 obtain ⟨A', c', e1, q1, q2⟩ := hi.slice
 injection e1 with e1 e2 e3
 subst e1 e2 e3
 obtain ⟨a, b, c, H, h1, h2, r0, r1, r2⟩ := hN
 have hcap := intX_cap he
 have hlen : (entR (envP p) 0 p.procs).length = p.procs.length := entR_len _ _ _
 have hfa := fault_facts hf
 have hbz := he.2
 have he2 : OwnX base wr 3 1 (.slice eA (entR (envP p) 0 p.procs).length ec) (entR (envP p) 0 p.procs).length ((entR (envP p) 0 p.procs).map (Value.int .i64)) := by rw [hlen]; exact he
 have hrow := ints_rowO he2 (ent_in (fun q hq => (hfa.2.2.2 q hq).2) (by omega))
 have hir := hi.row
 rw [hlen] at hrow
 refine ⟨eA, ec, iA, ic, ?_, fun i => if i < 3 then H i else if i = 3 then (fun b => base ≤ b ∧ b < wr.heap.size ∧ (Value.slice eA p.procs.length ec).ownBlock = some b) else if i = 4 then (fun b => base ≤ b ∧ b < wr.heap.size ∧ ¬ (Value.slice eA p.procs.length ec).ownBlock = some b) else fun _ => False, fun i b h => ?_, fun i j b hne ha hb => ?_, ⟨a.1, a.2, r0⟩, ⟨b.1, b.2, r1⟩, ⟨c.1, c.2, r2⟩, ⟨by show (entR (envP p) 0 p.procs).length ≤ ec; omega, hcap.2, hrow⟩, ⟨q1, q2, hir⟩⟩
 ·rw [hb]
  show _ = some (Obj.cells #[.slice gA p.globals.length gc, .slice lA p.locks.length lc, .slice pA (pnames p.procs).length pc, .slice eA (entR (envP p) 0 p.procs).length ec, .slice iA (insR (envP p) 0 p.procs).length ic] T (0, 0))
  rw [hlen]
 ·simp only at h
  split at h
  ·have := h1 i b h; omega
  ·split at h
   ·omega
   ·split at h
    ·omega
    ·exact h.elim
 ·simp only at ha hb
  split at ha
  ·have hA := h1 i b ha
   split at hb
   ·exact h2 i j b hne ha hb
   ·split at hb
    ·omega
    ·split at hb
     ·omega
     ·exact hb
  ·split at ha
   ·split at hb
    ·have := h1 j b hb; omega
    ·split at hb
     ·omega
     ·split at hb
      ·exact hb.2.2 ha.2.2
      ·exact hb
   ·split at ha
    ·split at hb
     ·have := h1 j b hb; omega
     ·split at hb
      ·exact ha.2.2 hb.2.2
      ·split at hb
       ·omega
       ·exact hb
    ·exact ha
def RetLo (W : World) (ss : List ByteArray) (e : Ending) (w' : World) : Prop := ∃ A c lo, e = .returned (.slice A ss.length c) ∧ (ss.length ≤ c ∧ c ≤ maxLen) ∧ W.heap.size ≤ lo ∧ lo ≤ W.heap.size ∧ Hid (StrRowO w' (fun b => lo ≤ b ∧ b < w'.heap.size) A ss) ∧ Below W.heap.size W w'
theorem cloneG_at (p : Pg) (x : V3) (W : World) (hp : PgIs W x p) (h : p.globals.length ≤ 100000) : Calls Tryz.prog 17 #[.slice x.gA p.globals.length x.gc] W (RetLo W p.globals) :=
 (slices_Clone x.gA x.gc p.globals W hp.g1 hp.g2 hp.g3 hp.g4 h).mono fun e w' ⟨A, c, h1, h2, h3, h4, h5⟩ => ⟨A, c, W.heap.size, h1, ⟨h2, h3⟩, Nat.le_refl _, Nat.le_refl _, qh h4, h5⟩
theorem cloneL_at (p : Pg) (x : V3) (W : World) (hp : PgIs W x p) (h : p.locks.length ≤ 100000) : Calls Tryz.prog 17 #[.slice x.lA p.locks.length x.lc] W (RetLo W p.locks) :=
 (slices_Clone x.lA x.lc p.locks W hp.l1 hp.l2 hp.l3 hp.l4 h).mono fun e w' ⟨A, c, h1, h2, h3, h4, h5⟩ => ⟨A, c, W.heap.size, h1, ⟨h2, h3⟩, Nat.le_refl _, Nat.le_refl _, qh h4, h5⟩
theorem names_at (p : Pg) (x : V3) (W : World) (hp : PgIs W x p) (h : p.procs.length ≤ 100000) : Calls Tryz.prog 18 #[.agg #[.slice x.gA p.globals.length x.gc, .slice x.lA p.locks.length x.lc, .slice x.pA p.procs.length x.pc]] W (RetLo W (pnames p.procs)) :=
 (impl_procNames p x W hp (by omega)).mono fun e w' ⟨A, c, h1, h2⟩ => ⟨A, c, W.heap.size, h1, by obtain ⟨A', c', e1, hc⟩ := own_slice h2.1; injection e1 with _ _ e1; subst e1; exact ⟨hc, own_cap h2.1⟩, Nat.le_refl _, Nat.le_refl _, qh (OwnStrs.rowO h2 (pnames_size hp)), h2.2⟩
theorem coN_of {w1 F W : World} {kb loG loL loN : Nat} {wG wL wN : World} {gA lA pA : Option Addr} {gc lc pc : Nat} {p : Pg} (hg : p.globals.length ≤ gc ∧ gc ≤ maxLen) (hl : p.locks.length ≤ lc ∧ lc ≤ maxLen) (hp : (pnames p.procs).length ≤ pc ∧ pc ≤ maxLen)
  (rg : StrRowO wG (fun b => loG ≤ b ∧ b < wG.heap.size) gA p.globals) (rl : StrRowO wL (fun b => loL ≤ b ∧ b < wL.heap.size) lA p.locks) (rn : StrRowO wN (fun b => loN ≤ b ∧ b < wN.heap.size) pA (pnames p.procs))
  (bg : Below wG.heap.size wG F) (bl : Below wL.heap.size wL F) (bn : Below wN.heap.size wN F) (hW : ∀ b, b ≠ kb → W.heap[b]? = F.heap[b]?) (hz : W.heap.size = F.heap.size)
  (lg : w1.heap.size ≤ loG) (ll : w1.heap.size ≤ loL) (ln : w1.heap.size ≤ loN) (kg : kb < loG ∨ wG.heap.size ≤ kb) (kl : kb < loL ∨ wL.heap.size ≤ kb) (kn : kb < loN ∨ wN.heap.size ≤ kb)
  (d1 : wG.heap.size ≤ loL ∨ wL.heap.size ≤ loG) (d2 : wG.heap.size ≤ loN ∨ wN.heap.size ≤ loG) (d3 : wL.heap.size ≤ loN ∨ wN.heap.size ≤ loL) : CoN w1 W kb W.heap.size gA lA pA gc lc pc p := by
 have sg := bg.size
 have sl := bl.size
 have sn := bn.size
 refine ⟨hg, hl, hp, fun i b => (i = 0 ∧ loG ≤ b ∧ b < wG.heap.size) ∨ (i = 1 ∧ loL ≤ b ∧ b < wL.heap.size) ∨ (i = 2 ∧ loN ≤ b ∧ b < wN.heap.size), fun i b h => by omega, fun i j b hne h h' => by omega, ?_, ?_, ?_⟩
 ·exact RowOf.subR (rg.keep fun b hb => (hW b (by omega)).trans (bg.block b hb.2)) fun b hb => .inl ⟨rfl, hb⟩
 ·exact RowOf.subR (rl.keep fun b hb => (hW b (by omega)).trans (bl.block b hb.2)) fun b hb => .inr (.inl ⟨rfl, hb⟩)
 ·exact RowOf.subR (rn.keep fun b hb => (hW b (by omega)).trans (bn.block b hb.2)) fun b hb => .inr (.inr ⟨rfl, hb⟩)
theorem five_other {w : World} {g : Nat} (x y z u v : Value) : ∀ b, b ≠ g → (((((w.setCell ⟨g, 0, none⟩ x).setCell ⟨g, 1, none⟩ y).setCell ⟨g, 2, none⟩ z).setCell ⟨g, 3, none⟩ u).setCell ⟨g, 4, none⟩ v).heap[b]? = w.heap[b]? := fun b hb => by
 rw [Below.heap_setCell _ _ _ _ hb, Below.heap_setCell _ _ _ _ hb, Below.heap_setCell _ _ _ _ hb, Below.heap_setCell _ _ _ _ hb, Below.heap_setCell _ _ _ _ hb]
theorem con_done {w1 F W : World} {kb loG loL loN : Nat} {wG wL wN : World} {gA lA pA : Option Addr} {gc lc pc : Nat} {p : Pg} {T : TypeId} {a b c d e x y z u v : Value} (hW : (((((F.setCell ⟨kb, 0, none⟩ x).setCell ⟨kb, 1, none⟩ y).setCell ⟨kb, 2, none⟩ z).setCell ⟨kb, 3, none⟩ u).setCell ⟨kb, 4, none⟩ v) = W) (hg : p.globals.length ≤ gc ∧ gc ≤ maxLen) (hl : p.locks.length ≤ lc ∧ lc ≤ maxLen) (hp : (pnames p.procs).length ≤ pc ∧ pc ≤ maxLen)
  (rg : StrRowO wG (fun b => loG ≤ b ∧ b < wG.heap.size) gA p.globals) (rl : StrRowO wL (fun b => loL ≤ b ∧ b < wL.heap.size) lA p.locks) (rn : StrRowO wN (fun b => loN ≤ b ∧ b < wN.heap.size) pA (pnames p.procs))
  (bg : Below wG.heap.size wG F) (bl : Below wL.heap.size wL F) (bn : Below wN.heap.size wN F) (hb : F.heap[kb]? = some (.cells #[a, b, c, d, e] T (0, 0))) (BF : Below w1.heap.size w1 F) (hk : w1.heap.size ≤ kb)
  (lg : w1.heap.size ≤ loG) (ll : w1.heap.size ≤ loL) (ln : w1.heap.size ≤ loN) (kg : kb < loG ∨ wG.heap.size ≤ kb) (kl : kb < loL ∨ wL.heap.size ≤ kb) (kn : kb < loN ∨ wN.heap.size ≤ kb)
  (d1 : wG.heap.size ≤ loL ∨ wL.heap.size ≤ loG) (d2 : wG.heap.size ≤ loN ∨ wN.heap.size ≤ loG) (d3 : wL.heap.size ≤ loN ∨ wN.heap.size ≤ loL) :
  CoN w1 W kb W.heap.size gA lA pA gc lc pc p ∧ w1.heap.size ≤ kb ∧ kb < W.heap.size ∧ Below w1.heap.size w1 W ∧ W.heap[kb]? = some (.cells #[x, y, z, u, v] T (0, 0)) := by
 subst hW
 have hz := lt_of_block hb
 exact ⟨coN_of hg hl hp rg rl rn bg bl bn (five_other x y z u v) (by simp) lg ll ln kg kl kn d1 d2 d3, hk, by simpa using hz, five_below BF hk x y z u v, s5_all hb x y z u v⟩
theorem coS_zero {wx : World} {kb base : Nat} {gA lA pA : Option Addr} {gc lc pc : Nat} {p : Pg} {T : TypeId} (hkb : wx.heap[kb]? = some (.cells #[.slice gA p.globals.length gc, .slice lA p.locks.length lc, .slice pA (pnames p.procs).length pc, .slice none 0 0, .slice none 0 0] T (0, 0))) (hb : base ≤ wx.heap.size) : CoS wx wx kb base gA lA pA gc lc pc p T 0 :=
 ⟨none, 0, none, 0, 0, hkb, ⟨World.ownsRow_nil _ _ _ _, hb⟩, GrwX.nil hb, Keep.refl _ _⟩
theorem box2P {w : World} {g : Nat} {a b : Value} {T : TypeId} (h : w.heap[g]? = some (.cells #[a, b] T (0, 0))) : w.cell? ⟨g, 0, none⟩ = some a ∧ w.cell? ⟨g, 1, none⟩ = some b :=
 ⟨by rw [Lib.cell_of_heap h]; rfl, by rw [Lib.cell_of_heap h]; rfl⟩
theorem ent_app {base kb j c j' c' : Nat} {A A' : Option Addr} {u0 w7 : World} {ents : List Value} {x : Value} {iv : Value} {cur : List Ic} {T : TypeId} {a b d e : Value} (ow : OwnX base u0 3 1 (.slice A j c) j ents) (gi : GrwI base (fun b => (Value.slice A j c).ownBlock = some b) u0 iv cur) (hkb : kb < base) (hk : u0.heap[kb]? = some (.cells #[a, b, d, .slice A j c, e] T (0, 0)))
  (own7 : Own (cutX base u0) w7 3 1 (.slice A' j' c') j' (ents ++ [x])) (gr : Grew (.slice A j c) (.slice A' j' c') u0 w7) :
  (w7.setCell ⟨kb, 3, none⟩ (.slice A' j' c')).heap[kb]? = some (.cells #[a, b, d, .slice A' j' c', e] T (0, 0)) ∧ OwnX base (w7.setCell ⟨kb, 3, none⟩ (.slice A' j' c')) 3 1 (.slice A' j' c') j' (ents ++ [x]) ∧
  GrwI base (fun b => (Value.slice A' j' c').ownBlock = some b) (w7.setCell ⟨kb, 3, none⟩ (.slice A' j' c')) iv cur ∧ Keep (fun b => b < base ∧ b ≠ kb) u0 (w7.setCell ⟨kb, 3, none⟩ (.slice A' j' c')) := by
 have hne : ∀ b, b < base → (Value.slice A j c).ownBlock ≠ some b := fun b hb e => by have := (ow.lt b e).1; omega
 have hk7 : w7.heap[kb]? = some (.cells #[a, b, d, .slice A j c, e] T (0, 0)) := (gr.keep.block kb (lt_of_block hk) (hne kb hkb)).trans hk
 have ow7 := OwnX.of (w := u0) ow.2 own7
 have hne7 : ∀ b, b < base → (Value.slice A' j' c').ownBlock ≠ some b := fun b hb e => by have := (ow7.lt b e).1; omega
 refine ⟨s5_3 hk7 _, ow7.setO (hne7 kb hkb) _, ?_, ?_⟩
 ·have g1 : GrwI base (fun b => (Value.slice A j c).ownBlock = some b ∨ (Value.slice A' j' c').ownBlock = some b) u0 iv cur := gi.zsub fun b _ hb h => h.elim id fun h => by
   rcases gr.lies with h1 | ⟨g, h1, h2⟩
   ·rw [← h1]; exact h
   ·rw [h1] at h; injection h with h; omega
  have g2 := g1.keep IcP.keepP gr.keep (fun b _ _ h => fun e => h (.inl e))
  have g3 := g2.keep IcP.keepP (S := fun b => b ≠ kb) (Keep.setCell (Keep.refl _ _) (p := ⟨kb, 3, none⟩) (fun h => h rfl) (.slice A' j' c')) (fun b h1 _ _ => by show b ≠ kb; omega)
  exact g3.zsub fun b _ _ h => .inr h
 ·exact (gr.keep.mono (fun b _ h => hne b h.1)).setCell (p := ⟨kb, 3, none⟩) (fun h => h.2 rfl) _
theorem alloc_facts {u v : World} {cs : Array Value} {T : TypeId} (h : u.alloc (.cells cs T) = v) : v.heap[u.heap.size]? = some (.cells cs T (0, 0)) ∧ Below u.heap.size u v ∧ u.heap.size + 1 ≤ v.heap.size ∧ v.heap.size ≤ u.heap.size + 1 := by
 subst h
 exact ⟨heap_alloc_new _ _, Below.alloc (Below.refl _ _) (Nat.le_refl _) _, by simp, by simp⟩
end Go.Proofs.YtnmblfonmfjoeaaGreatDoor
