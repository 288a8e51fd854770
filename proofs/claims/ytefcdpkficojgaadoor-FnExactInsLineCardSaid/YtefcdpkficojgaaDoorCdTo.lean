/- Copying codes: the copy reads as what was copied. -/
import Derived.Test.YtefcdpkficojgaaDoorCdIs
import Derived.Test.YtefcdpkficojgaaDoorStrsO
namespace Go.Proofs.YtefcdpkficojgaaDoor
open Go.RowKit
set_option linter.unusedVariables false

theorem Own.setO {w0 w w0' : World} {e e' : TypeId} {sz sz' n n' g g' cap cap' : Nat} {xs xs' : List Value} (h : Own w0 w e sz (.slice (some ⟨g, 0, none⟩) n cap) n xs) (h' : Own w0' w e' sz' (.slice (some ⟨g', 0, none⟩) n' cap') n' xs') (hne : g ≠ g') (hg : w0.heap.size ≤ g') (j : Nat) (u : Value) :
    Own w0 (w.setCell ⟨g', j, none⟩ u) e sz (.slice (some ⟨g, 0, none⟩) n cap) n xs :=
  ⟨h.1.kept (h'.1.stored j u).2 (by simp [Value.ownBlock]; first | exact hne | exact fun e => hne e.symm | omega), h.2.setCell hg u⟩
/-- a row whose block is not older than lo -/
def RdF (lo : Nat) (w : World) (sz : Nat) (A : Option Addr) (n : Nat) (xs : List Value) : Prop := Rd w sz A n xs ∧ ∀ b off, A = some ⟨b, off, none⟩ → 0 < n → lo ≤ b
theorem RdF.rd {lo : Nat} {w : World} {sz n : Nat} {A : Option Addr} {xs : List Value} (h : RdF lo w sz A n xs) : Rd w sz A n xs := h.1
theorem RdF.below {lo : Nat} {w w' : World} {sz n : Nat} {A : Option Addr} {xs : List Value} (h : RdF lo w sz A n xs) (hb : Below w.heap.size w w') : RdF lo w' sz A n xs := ⟨h.1.below hb, h.2⟩
theorem RdF.set {lo : Nat} {w : World} {sz n : Nat} {A : Option Addr} {xs : List Value} (h : RdF lo w sz A n xs) {p : Addr} (hp : p.block < lo) (u : Value) : RdF lo (w.setCell p u) sz A n xs :=
  ⟨⟨h.1.1, fun hn => by
    obtain ⟨b, off, e, hc⟩ := h.1.2 hn
    exact ⟨b, off, e, fun j v hv => by rw [World.cell?_setCell_other w p _ u (fun e2 => by subst e2; have := h.2 b off e hn; simp at hp; omega)]; exact hc j v hv⟩⟩, h.2⟩
theorem RdF.of_own {w0 w : World} {e : TypeId} {sz n c lo : Nat} {A : Option Addr} {xs : List Value} (h : Own w0 w e sz (.slice A n c) n xs) (hlo : lo ≤ w0.heap.size) : RdF lo w sz A n xs := by
  refine ⟨h.rd, fun b off e hn => ?_⟩
  subst e
  have := (h.1.lt b rfl).1
  omega
theorem IcRow.anyF {lo : Nat} {w : World} {A : Option Addr} {l : List Ic} (h : IcRow (Fr lo w) w A l) : IcRow AnyB w A l := h.any
def RetI (w : World) (p : Ic) (e : Ending) (w' : World) : Prop := ∃ x : V7, e = .returned (.agg #[.int .i64 x.op, .int .i64 x.arg, .int .i64 x.k, .int .i64 x.n, .string x.s, .slice x.A x.m x.c, .int .i64 x.to]) ∧ IcIs (Fr w.heap.size w') w' x p ∧ Below w.heap.size w w'
theorem inT : ElemT Tryd.prog 57 130 7 80 := ElemT.mk' (z := .agg #[.int .i64 0, .int .i64 0, .int .i64 0, .int .i64 0, .string ByteArray.empty, .slice none 0 0, .int .i64 0]) Tryd.underlying57 (by kernel_rfl) rfl (by decide)
theorem inZ : (Tryd.prog.info? 130).map (fun i => i.zero) = some (some (.agg #[.int .i64 0, .int .i64 0, .int .i64 0, .int .i64 0, .string ByteArray.empty, .slice none 0 0, .int .i64 0])) := by kernel_rfl
set_option maxHeartbeats 1600000 in
theorem laws_toIns (p : Ic) (x : V7) (w : World) (hp : IcIs AnyB w x p) (ht : totT p.term ≤ 1048576) : Calls Tryd.prog 159 #[.agg #[.int .i64 x.op, .int .i64 x.arg, .int .i64 x.k, .int .i64 x.n, .string x.s, .slice x.A x.m x.c, .int .i64 x.to]] w (RetI w p) := by
  obtain ⟨op, arg, t, to⟩ := p
  obtain ⟨xo, xa, k, n, s, A, m, c, xt⟩ := x
  obtain ⟨rfl, rfl, rfl, ho, ha, hto, hT⟩ := hp
  simp only [V7.term] at hT ht ho ha hto
  simp only
  have HT := Lib.hid hT
  have HO := Lib.hid (And.intro ho (And.intro ha hto))
  clear hT ho ha hto
  go_enter Tryd.func159, Tryd.ntmps159
  go_wp2_with fail
  refine (laws_toTerm t k n s A m c _ (HT.out.belowA (by repeat' (first | exact Below.refl _ _ | exact Nat.le_refl _ | (refine Below.alloc ?_ ?_ _) | (refine Below.setCell ?_ ?_ _) | (refine Below.drew ?_) | (refine below_drewN ?_ _) | assumption | (simp; done) | (simp; omega)))) ht).mono ?_
  rintro e w1 ⟨k1, n1, s1, A1, m1, c1, rfl, t1, b1⟩
  have T1 := Lib.hid t1
  have B1 := Lib.hid b1
  obtain ⟨hcell, hfree⟩ := old_cells b1
  have hsz := b1.size
  simp only [World.size_alloc] at hcell hfree hsz
  clear t1 b1
  go_wp2_with fail
  refine bodyPost_ret (v := .agg #[.int .i64 xo, .int .i64 xa, .int .i64 k1, .int .i64 n1, .string s1, .slice A1 m1 c1, .int .i64 xt]) (by simp [results, Tryd.results159, go_sem, hcell]) rfl ⟨⟨xo, xa, k1, n1, s1, A1, m1, c1, xt⟩, rfl, ⟨rfl, rfl, rfl, HO.out.1, HO.out.2.1, HO.out.2.2, ?_⟩, ?_⟩
  · refine TmIs.mono (lo := w.heap.size + 1 + 1 + 1) ?_ (by omega)
    have T2 := T1.out
    simp only [World.size_alloc] at T2
    simp only [V7.term]
    repeat' (first | (with_reducible exact T2) | (with_reducible refine TmIs.setF ?_ ?_ _))
    all_goals (simp; try omega)
  · have hb : Below w.heap.size w w1 := Below.trans (by repeat' (first | exact Below.refl _ _ | exact Nat.le_refl _ | (refine Below.alloc ?_ ?_ _) | (refine Below.setCell ?_ ?_ _) | (refine Below.drew ?_) | (refine below_drewN ?_ _) | assumption | (simp; done) | (simp; omega))) (B1.out.mono (by simp; omega))
    repeat' (first | (with_reducible exact hb) | (with_reducible refine Below.setCell ?_ ?_ _))
    all_goals (simp; try omega)
def put7 (w : World) (g o : Nat) (x : V7) : World := ((((((w.setCell ⟨g, o, none⟩ (.int .i64 x.op)).setCell ⟨g, o + 1, none⟩ (.int .i64 x.arg)).setCell ⟨g, o + 2, none⟩ (.int .i64 x.k)).setCell ⟨g, o + 3, none⟩ (.int .i64 x.n)).setCell ⟨g, o + 4, none⟩ (.string x.s)).setCell ⟨g, o + 5, none⟩ (.slice x.A x.m x.c)).setCell ⟨g, o + 6, none⟩ (.int .i64 x.to)
theorem Own.put7 {w0 w : World} {e : TypeId} {g n cap : Nat} {xs : List Value} (h : Own w0 w e 7 (.slice (some ⟨g, 0, none⟩) n cap) n xs) (o : Nat) (x : V7) : Own w0 (put7 w g o x) e 7 (.slice (some ⟨g, 0, none⟩) n cap) n (sets xs o x.cells) :=
  ((((((h.set o _).set (o + 1) _).set (o + 2) _).set (o + 3) _).set (o + 4) _).set (o + 5) _).set (o + 6) _
theorem IcIs.put7F {lo : Nat} {w : World} {y : V7} {t : Ic} (h : IcIs (Fr lo w) w y t) {g : Nat} (hg : g < lo) (o : Nat) (x : V7) : IcIs (Fr lo (put7 w g o x)) (put7 w g o x) y t :=
  ((((((h.setF (p := ⟨g, o, none⟩) hg _).setF (p := ⟨g, o + 1, none⟩) hg _).setF (p := ⟨g, o + 2, none⟩) hg _).setF (p := ⟨g, o + 3, none⟩) hg _).setF (p := ⟨g, o + 4, none⟩) hg _).setF (p := ⟨g, o + 5, none⟩) hg _).setF (p := ⟨g, o + 6, none⟩) hg _
theorem put7_size (w : World) (g o : Nat) (x : V7) : (put7 w g o x).heap.size = w.heap.size := by simp [put7]
set_option maxHeartbeats 1600000 in
theorem laws_toInsS (ts : List Ic) (A : Option Addr) (c : Nat) (w : World) (row : IcRow AnyB w A ts) (hl : ts.length ≤ c) (hc : c ≤ maxLen) (ht : totIs ts ≤ 1048576) :
    Calls Tryd.prog 93 #[.slice A ts.length c] w fun e w' => ∃ A' c', e = .returned (.slice A' ts.length c') ∧ ts.length ≤ c' ∧ c' ≤ maxLen ∧ IcRow (Fr w.heap.size w') w' A' ts ∧ Below w.heap.size w w' := by
  unfold maxLen at hc
  have RW := Lib.hid row
  have hlen := totIs_len ts
  have HT := Lib.hid (fun t (hm : t ∈ ts) => show totT t.term ≤ 1048576 from by have := totIs_le hm; omega)
  clear row
  go_enter Tryd.func93, Tryd.ntmps93
  go_wp2_with (at_make; refine wpList_mkN rfl _ _ 57 rfl inT V7.cells v7_len z7 _ inZ rfl (Below.refl _ _) _ _ _ _ ts.length rfl rfl rfl rfl (by omega) (by simp only [maxLen]; omega) ?_; intro w1 own1 hlt1 hg1)
  go_loopw [4] (fun i wr => ∃ us : List V7, us.length ≤ ts.length ∧ i = .int .i64 (us.length : Int) ∧ Own w wr 130 7 (.slice (some ⟨w.heap.size, 0, none⟩) ts.length ts.length) ts.length ((us ++ List.replicate (ts.length - us.length) z7).flatMap V7.cells) ∧ w.heap.size < wr.heap.size ∧ Hid (∀ k (hk : k < ts.length) (hk' : k < us.length), IcIs (Fr (w.heap.size + 1) wr) wr us[k] ts[k])) (fun i _ => ts.length - (intOf i).toNat)
  case atStart => exact ⟨[], Nat.zero_le _, rfl, by simpa using own1, hlt1, Lib.hid (fun k _ hk => absurd hk (by simp))⟩
  case round =>
    obtain ⟨us, hk, rfl, own, hsz, HU⟩ := hrel
    have OW := Lib.hid own
    clear own own1 hlt1 hg1 hlen
    by_cases hlt : us.length < ts.length
    · obtain ⟨b, off, y, rfl, _, ⟨d0, d1, d2, d3, d4, d5, d6⟩, hterm⟩ := rd_ins (RW.out.belowA OW.out.2) hlt
      have HTm := Lib.hid hterm
      clear hterm
      have h0k : (0 : Int) ≤ (us.length : Int) := by omega
      go_wp2_with fail
      refine (laws_toIns _ y _ HTm.out (HT.out _ (List.getElem_mem hlt))).mono ?_
      rintro e w1 ⟨x, rfl, ht1, b1⟩
      have T1 := Lib.hid ht1
      have B1 := Lib.hid b1
      clear ht1 b1 d0 d1 d2 d3 d4 d5 d6
      have O2 := Lib.hid (OW.out.below B1.out)
      have hp : us.length < (us ++ List.replicate (ts.length - us.length) z7).length := fill_get hlt
      obtain ⟨x0, q0⟩ : ∃ x, w1.cell? ⟨w.heap.size, us.length * 7, none⟩ = some x := ⟨_, O2.out.cellAt (j := us.length * 7) (by omega) ((flat_get V7.cells 7 v7_len _ us.length 0 hp (by omega)).trans rfl)⟩
      obtain ⟨x1, q1⟩ : ∃ x, w1.cell? ⟨w.heap.size, us.length * 7 + 1, none⟩ = some x := ⟨_, O2.out.cellAt (j := us.length * 7 + 1) (by omega) ((flat_get V7.cells 7 v7_len _ us.length 1 hp (by omega)).trans rfl)⟩
      obtain ⟨x2, q2⟩ : ∃ x, w1.cell? ⟨w.heap.size, us.length * 7 + 2, none⟩ = some x := ⟨_, O2.out.cellAt (j := us.length * 7 + 2) (by omega) ((flat_get V7.cells 7 v7_len _ us.length 2 hp (by omega)).trans rfl)⟩
      obtain ⟨x3, q3⟩ : ∃ x, w1.cell? ⟨w.heap.size, us.length * 7 + 3, none⟩ = some x := ⟨_, O2.out.cellAt (j := us.length * 7 + 3) (by omega) ((flat_get V7.cells 7 v7_len _ us.length 3 hp (by omega)).trans rfl)⟩
      obtain ⟨x4, q4⟩ : ∃ x, w1.cell? ⟨w.heap.size, us.length * 7 + 4, none⟩ = some x := ⟨_, O2.out.cellAt (j := us.length * 7 + 4) (by omega) ((flat_get V7.cells 7 v7_len _ us.length 4 hp (by omega)).trans rfl)⟩
      obtain ⟨x5, q5⟩ : ∃ x, w1.cell? ⟨w.heap.size, us.length * 7 + 5, none⟩ = some x := ⟨_, O2.out.cellAt (j := us.length * 7 + 5) (by omega) ((flat_get V7.cells 7 v7_len _ us.length 5 hp (by omega)).trans rfl)⟩
      obtain ⟨x6, q6⟩ : ∃ x, w1.cell? ⟨w.heap.size, us.length * 7 + 6, none⟩ = some x := ⟨_, O2.out.cellAt (j := us.length * 7 + 6) (by omega) ((flat_get V7.cells 7 v7_len _ us.length 6 hp (by omega)).trans rfl)⟩
      have r0 := O2.out.freeAt (us.length * 7)
      have r1 := O2.out.freeAt (us.length * 7 + 1)
      have r2 := O2.out.freeAt (us.length * 7 + 2)
      have r3 := O2.out.freeAt (us.length * 7 + 3)
      have r4 := O2.out.freeAt (us.length * 7 + 4)
      have r5 := O2.out.freeAt (us.length * 7 + 5)
      have r6 := O2.out.freeAt (us.length * 7 + 6)
      have e2 := flat_sets V7.cells 7 v7_len (us ++ List.replicate (ts.length - us.length) z7) us.length hp x
      rw [fill_set hlt] at e2
      have OS := O2.out.put7 (us.length * 7) x
      rw [e2] at OS
      have O3 := Lib.hid OS
      have hu : Hid (∀ k (hk : k < ts.length) (hk' : k < (us ++ [x]).length), IcIs (Fr (w.heap.size + 1) (put7 w1 w.heap.size (us.length * 7) x)) (put7 w1 w.heap.size (us.length * 7) x) (us ++ [x])[k] ts[k]) := by
        refine Lib.hid fun k hk hk' => IcIs.put7F ?_ (by omega) _ _
        by_cases e : k < us.length
        · rw [List.getElem_append_left e]; exact (HU.out k hk e).belowF B1.out
        · have e2 : k = us.length := by simp at hk'; omega
          subst e2
          simp only [List.getElem_concat_length]
          exact T1.out.mono hsz
      have HZ := Lib.hid (put7_size w1 w.heap.size (us.length * 7) x)
      have hs1 := B1.out.size
      clear OS e2
      go_wp2_with fail
      go_roundw
      case rel => exact ⟨us ++ [x], by simp; omega, by simp, O3.out, by have := HZ.out; simp; omega, hu⟩
      case measure => simp [intOf]; omega
    · have e : us.length = ts.length := by omega
      have OE := OW.out
      rw [e, Nat.sub_self, List.replicate_zero, List.append_nil] at OE
      have HE := Lib.hid e
      have OB := Lib.hid OE
      clear OE OW e
      go_wp2_with fail
      go_ret
      refine ⟨_, _, rfl, Nat.le_refl _, by simp only [maxLen]; omega, ⟨us, HE.out, by rw [HE.out]; exact OB.out.rd, fun b off e hn => ?_, fun k hk hk' => (HU.out k hk hk').mono (by omega)⟩, OB.out.2⟩
      injection e with e
      injection e with e1 e2
      subst e1
      rcases OB.out.1.2 with ⟨h, _⟩ | ⟨g, cap, cur, h, hb, hg, _⟩
      · simp at h
      · injection h with h
        injection h with h
        injection h with h
        subst h
        exact ⟨hb, cur, _, hg⟩
def RetC (w : World) (p : Cd) (e : Ending) (w' : World) : Prop := ∃ x : V5, e = .returned (x.val p) ∧ CdIs w' x p ∧ Below w.heap.size w w'
set_option maxHeartbeats 1600000 in
theorem laws_toCode (p : Cd) (x : V5) (w : World) (hp : CdIs w x p) (ht : totCd p ≤ 1048576) : Calls Tryd.prog 37 #[x.val p] w (RetC w p) := by
  obtain ⟨gs, ls, ps, es, is⟩ := p
  obtain ⟨gA, gc, lA, lc, pA, pc, eA, ec, iA, ic⟩ := x
  have HP := Lib.hid hp
  have hic := hp.i2
  have hil := hp.i1
  simp only at hic hil
  have htg : gs.length ≤ 1048576 := by have : gs.length ≤ totS gs := by unfold totS; omega
                                       simp [totCd] at ht; omega
  have htl : ls.length ≤ 1048576 := by have : ls.length ≤ totS ls := by unfold totS; omega
                                       simp [totCd] at ht; omega
  have htp : ps.length ≤ 1048576 := by have : ps.length ≤ totS ps := by unfold totS; omega
                                       simp [totCd] at ht; omega
  have hte : es.length ≤ 1048576 := by simp [totCd] at ht; omega
  have hti : totIs is ≤ 1048576 := by simp [totCd] at ht; omega
  unfold V5.val
  simp only
  clear hp ht
  go_enter Tryd.func37, Tryd.ntmps37
  go_wp2_with fail
  refine (laws_toStringSO _ gs _ (HP.out.gs.below (by repeat' (first | exact Below.refl _ _ | exact Nat.le_refl _ | (refine Below.alloc ?_ ?_ _) | (refine Below.setCell ?_ ?_ _) | (refine Below.drew ?_) | (refine below_drewN ?_ _) | assumption | (simp; done) | (simp; omega)))) htg).mono ?_
  rintro e w1 ⟨A1, c1, rfl, own1⟩
  have OA : Own w w1 54 5 (.slice (some ⟨w.heap.size, 0, none⟩) 1 1) 1 [.slice gA gs.length gc, .slice lA ls.length lc, .slice pA ps.length pc, .slice eA es.length ec, .slice iA is.length ic] := (((Own.lit (Below.refl _ _) _ 5 1 #[.slice gA gs.length gc, .slice lA ls.length lc, .slice pA ps.length pc, .slice eA es.length ec, .slice iA is.length ic] (by simp [maxLen]) rfl).alloc _).alloc _).below own1.2
  have OR : Own w w1 59 5 (.slice (some ⟨w.heap.size + 1, 0, none⟩) 1 1) 1 [.slice none 0 0, .slice none 0 0, .slice none 0 0, .slice none 0 0, .slice none 0 0] := by
    have := ((Own.lit (w0 := w) (Below.alloc (Below.refl _ _) (Nat.le_refl _) (.cells #[.slice gA gs.length gc, .slice lA ls.length lc, .slice pA ps.length pc, .slice eA es.length ec, .slice iA is.length ic] 54)) 59 5 1 #[.slice none 0 0, .slice none 0 0, .slice none 0 0, .slice none 0 0, .slice none 0 0] (by simp [maxLen]) rfl).alloc (.cells #[.slice none 0 0, .slice none 0 0, .slice none 0 0, .slice none 0 0, .slice none 0 0] 59)).below own1.2
    simpa using this
  have OO : Own w w1 59 5 (.slice (some ⟨w.heap.size + 1 + 1, 0, none⟩) 1 1) 1 [.slice none 0 0, .slice none 0 0, .slice none 0 0, .slice none 0 0, .slice none 0 0] := by
    have := (Own.lit (w0 := w) (Below.alloc (Below.alloc (Below.refl _ _) (Nat.le_refl _) (.cells #[.slice gA gs.length gc, .slice lA ls.length lc, .slice pA ps.length pc, .slice eA es.length ec, .slice iA is.length ic] 54)) (by simp) (.cells #[.slice none 0 0, .slice none 0 0, .slice none 0 0, .slice none 0 0, .slice none 0 0] 59)) 59 5 1 #[.slice none 0 0, .slice none 0 0, .slice none 0 0, .slice none 0 0, .slice none 0 0] (by simp [maxLen]) rfl).below own1.2
    simpa using this
  have hlo : w.heap.size + 3 ≤ w1.heap.size := by have := own1.2.size; simpa using this
  have N1 : Hid (RdF (w.heap.size + 3) w1 1 A1 gs.length (gs.map Value.string)) := Lib.hid (RdF.of_own own1 (by simp))
  have M1 := N1.out
  have hc1 := own_cap' own1
  have hl1 : gs.length ≤ c1 := by obtain ⟨A, c, e, h⟩ := own1.slice; injection e with _ _ e; omega
  have o1 := OA.cellAt (j := 1) (by omega) rfl
  have u0 := OO.cellAt (j := 0) (by omega) rfl
  have f0 := OO.freeAt 0
  have hq1 : w.heap.size + 1 + 1 < w1.heap.size := cell_lt u0
  have OA1 := Lib.hid (Own.setO OA OO (by omega) (by omega) 0 (.slice A1 gs.length c1))
  have OR1 := Lib.hid (Own.setO OR OO (by omega) (by omega) 0 (.slice A1 gs.length c1))
  have OO1 : Hid (Own w (w1.setCell ⟨w.heap.size + 1 + 1, 0, none⟩ (.slice A1 gs.length c1)) 59 5 (.slice (some ⟨w.heap.size + 1 + 1, 0, none⟩) 1 1) 1 [.slice A1 gs.length c1, .slice none 0 0, .slice none 0 0, .slice none 0 0, .slice none 0 0]) := Lib.hid (OO.set 0 (.slice A1 gs.length c1))
  have N1 := Lib.hid (M1.set (p := ⟨w.heap.size + 1 + 1, 0, none⟩) (by simp) (.slice A1 gs.length c1))
  clear M1 OA OR OO own1
  go_wp2_with fail
  refine (laws_toStringSO _ ls _ (HP.out.ls.below OO1.out.2) htl).mono ?_
  rintro e w2 ⟨A2, c2, rfl, own2⟩
  have OA := OA1.out.below own2.2
  have OR := OR1.out.below own2.2
  have OO := OO1.out.below own2.2
  have hz2 : w1.heap.size ≤ w2.heap.size := by have := own2.2.size; simpa using this
  have M1 := N1.out.below own2.2
  have M2 : RdF (w.heap.size + 3) w2 1 A2 ls.length (ls.map Value.string) := RdF.of_own own2 (by simp; omega)
  have hc2 := own_cap' own2
  have hl2 : ls.length ≤ c2 := by obtain ⟨A, c, e, h⟩ := own2.slice; injection e with _ _ e; omega
  have o2 := OA.cellAt (j := 2) (by omega) rfl
  have u1 := OO.cellAt (j := 1) (by omega) rfl
  have f1 := OO.freeAt 1
  have hq2 : w.heap.size + 1 + 1 < w2.heap.size := cell_lt u1
  have OA2 := Lib.hid (Own.setO OA OO (by omega) (by omega) 1 (.slice A2 ls.length c2))
  have OR2 := Lib.hid (Own.setO OR OO (by omega) (by omega) 1 (.slice A2 ls.length c2))
  have OO2 : Hid (Own w (w2.setCell ⟨w.heap.size + 1 + 1, 1, none⟩ (.slice A2 ls.length c2)) 59 5 (.slice (some ⟨w.heap.size + 1 + 1, 0, none⟩) 1 1) 1 [.slice A1 gs.length c1, .slice A2 ls.length c2, .slice none 0 0, .slice none 0 0, .slice none 0 0]) := Lib.hid (OO.set 1 (.slice A2 ls.length c2))
  have N1 := Lib.hid (M1.set (p := ⟨w.heap.size + 1 + 1, 1, none⟩) (by simp) (.slice A2 ls.length c2))
  have N2 := Lib.hid (M2.set (p := ⟨w.heap.size + 1 + 1, 1, none⟩) (by simp) (.slice A2 ls.length c2))
  clear M1 M2 OA OR OO own2 OA1 OR1 OO1 o1 u0 f0
  go_wp2_with fail
  refine (laws_toStringSO _ ps _ (HP.out.ps.below OO2.out.2) htp).mono ?_
  rintro e w3 ⟨A3, c3, rfl, own3⟩
  have OA := OA2.out.below own3.2
  have OR := OR2.out.below own3.2
  have OO := OO2.out.below own3.2
  have hz3 : w2.heap.size ≤ w3.heap.size := by have := own3.2.size; simpa using this
  have M1 := N1.out.below own3.2
  have M2 := N2.out.below own3.2
  have M3 : RdF (w.heap.size + 3) w3 1 A3 ps.length (ps.map Value.string) := RdF.of_own own3 (by simp; omega)
  have hc3 := own_cap' own3
  have hl3 : ps.length ≤ c3 := by obtain ⟨A, c, e, h⟩ := own3.slice; injection e with _ _ e; omega
  have o3 := OA.cellAt (j := 3) (by omega) rfl
  have u2 := OO.cellAt (j := 2) (by omega) rfl
  have f2 := OO.freeAt 2
  have hq3 : w.heap.size + 1 + 1 < w3.heap.size := cell_lt u2
  have OA3 := Lib.hid (Own.setO OA OO (by omega) (by omega) 2 (.slice A3 ps.length c3))
  have OR3 := Lib.hid (Own.setO OR OO (by omega) (by omega) 2 (.slice A3 ps.length c3))
  have OO3 : Hid (Own w (w3.setCell ⟨w.heap.size + 1 + 1, 2, none⟩ (.slice A3 ps.length c3)) 59 5 (.slice (some ⟨w.heap.size + 1 + 1, 0, none⟩) 1 1) 1 [.slice A1 gs.length c1, .slice A2 ls.length c2, .slice A3 ps.length c3, .slice none 0 0, .slice none 0 0]) := Lib.hid (OO.set 2 (.slice A3 ps.length c3))
  have N1 := Lib.hid (M1.set (p := ⟨w.heap.size + 1 + 1, 2, none⟩) (by simp) (.slice A3 ps.length c3))
  have N2 := Lib.hid (M2.set (p := ⟨w.heap.size + 1 + 1, 2, none⟩) (by simp) (.slice A3 ps.length c3))
  have N3 := Lib.hid (M3.set (p := ⟨w.heap.size + 1 + 1, 2, none⟩) (by simp) (.slice A3 ps.length c3))
  clear M1 M2 M3 OA OR OO own3 OA2 OR2 OO2 o2 u1 f1
  go_wp2_with fail
  refine (laws_toIntS _ es _ (HP.out.es.below OO3.out.2) hte).mono ?_
  rintro e w4 ⟨v4, rfl, own4⟩
  obtain ⟨A4, c4, rfl, hl4⟩ := own4.slice
  have OA := OA3.out.below own4.2
  have OR := OR3.out.below own4.2
  have OO := OO3.out.below own4.2
  have hz4 : w3.heap.size ≤ w4.heap.size := by have := own4.2.size; simpa using this
  have M1 := N1.out.below own4.2
  have M2 := N2.out.below own4.2
  have M3 := N3.out.below own4.2
  have M4 : RdF (w.heap.size + 3) w4 1 A4 es.length (es.map (Value.int .i64)) := RdF.of_own own4 (by simp; omega)
  have hc4 := own_cap' own4
  have o4 := OA.cellAt (j := 4) (by omega) rfl
  have u3 := OO.cellAt (j := 3) (by omega) rfl
  have f3 := OO.freeAt 3
  have hq4 : w.heap.size + 1 + 1 < w4.heap.size := cell_lt u3
  have OA4 := Lib.hid (Own.setO OA OO (by omega) (by omega) 3 (.slice A4 es.length c4))
  have OR4 := Lib.hid (Own.setO OR OO (by omega) (by omega) 3 (.slice A4 es.length c4))
  have OO4 : Hid (Own w (w4.setCell ⟨w.heap.size + 1 + 1, 3, none⟩ (.slice A4 es.length c4)) 59 5 (.slice (some ⟨w.heap.size + 1 + 1, 0, none⟩) 1 1) 1 [.slice A1 gs.length c1, .slice A2 ls.length c2, .slice A3 ps.length c3, .slice A4 es.length c4, .slice none 0 0]) := Lib.hid (OO.set 3 (.slice A4 es.length c4))
  have N1 := Lib.hid (M1.set (p := ⟨w.heap.size + 1 + 1, 3, none⟩) (by simp) (.slice A4 es.length c4))
  have N2 := Lib.hid (M2.set (p := ⟨w.heap.size + 1 + 1, 3, none⟩) (by simp) (.slice A4 es.length c4))
  have N3 := Lib.hid (M3.set (p := ⟨w.heap.size + 1 + 1, 3, none⟩) (by simp) (.slice A4 es.length c4))
  have N4 := Lib.hid (M4.set (p := ⟨w.heap.size + 1 + 1, 3, none⟩) (by simp) (.slice A4 es.length c4))
  clear M1 M2 M3 M4 OA OR OO own4 OA3 OR3 OO3 o3 u2 f2
  go_wp2_with fail
  refine (laws_toInsS is iA ic _ (HP.out.i3.belowA OO4.out.2) hil hic hti).mono ?_
  rintro e w5 ⟨A5, c5, rfl, hl5, hc5, row5, b5⟩
  have OA := OA4.out.below b5
  have OR := OR4.out.below b5
  have OO := OO4.out.below b5
  have hz5 : w4.heap.size ≤ w5.heap.size := by have := b5.size; simpa using this
  have M1 := N1.out.below b5
  have M2 := N2.out.below b5
  have M3 := N3.out.below b5
  have M4 := N4.out.below b5
  have R5 := Lib.hid (row5.mono (lo' := w.heap.size + 3) (by simp; omega))
  have o0' := OO.cellAt (j := 0) (by omega) rfl
  have r0 := OR.cellAt (j := 0) (by omega) rfl
  have h0 := OR.freeAt 0
  have o1' := OO.cellAt (j := 1) (by omega) rfl
  have r1 := OR.cellAt (j := 1) (by omega) rfl
  have h1 := OR.freeAt 1
  have o2' := OO.cellAt (j := 2) (by omega) rfl
  have r2 := OR.cellAt (j := 2) (by omega) rfl
  have h2 := OR.freeAt 2
  have o3' := OO.cellAt (j := 3) (by omega) rfl
  have r3 := OR.cellAt (j := 3) (by omega) rfl
  have h3 := OR.freeAt 3
  have r4 := OR.cellAt (j := 4) (by omega) rfl
  have h4 := OR.freeAt 4
  have u4 := OO.cellAt (j := 4) (by omega) rfl
  have f4' := OO.freeAt 4
  have hB := Lib.hid OO.2
  have L1 := Lib.hid M1
  have L2 := Lib.hid M2
  have L3 := Lib.hid M3
  have L4 := Lib.hid M4
  clear M1 M2 M3 M4 OA OR OO OA4 OR4 OO4 row5 b5 o4 u3 f3
  go_wp2_with fail
  refine bodyPost_ret (v := .agg #[.slice A1 gs.length c1, .slice A2 ls.length c2, .slice A3 ps.length c3, .slice A4 es.length c4, .slice A5 is.length c5]) (by simp [results, Tryd.results37, go_sem, r0, r1, r2, r3, r4]) rfl ⟨⟨A1, c1, A2, c2, A3, c3, A4, c4, A5, c5⟩, rfl, ⟨hl1, hc1, ?_, HP.out.g4, hl2, hc2, ?_, HP.out.l4, hl3, hc3, ?_, HP.out.p4, hl4, hc4, ?_, HP.out.e4, hl5, hc5, ?_⟩, ?_⟩
  · refine RdF.rd (lo := w.heap.size + 3) ?_
    repeat' (first | (with_reducible exact L1.out) | (with_reducible refine RdF.set ?_ ?_ _))
    all_goals (simp; try omega)
  · refine RdF.rd (lo := w.heap.size + 3) ?_
    repeat' (first | (with_reducible exact L2.out) | (with_reducible refine RdF.set ?_ ?_ _))
    all_goals (simp; try omega)
  · refine RdF.rd (lo := w.heap.size + 3) ?_
    repeat' (first | (with_reducible exact L3.out) | (with_reducible refine RdF.set ?_ ?_ _))
    all_goals (simp; try omega)
  · refine RdF.rd (lo := w.heap.size + 3) ?_
    repeat' (first | (with_reducible exact L4.out) | (with_reducible refine RdF.set ?_ ?_ _))
    all_goals (simp; try omega)
  · refine IcRow.anyF (lo := w.heap.size + 3) ?_
    repeat' (first | (with_reducible exact R5.out) | (with_reducible refine IcRow.setF ?_ ?_ _))
    all_goals (simp; try omega)
  · have hb := hB.out
    repeat' (first | (with_reducible exact hb) | (with_reducible refine Below.setCell ?_ ?_ _))
    all_goals (simp; try omega)
end Go.Proofs.YtefcdpkficojgaaDoor
