/- Copying statements: the contracts of the laws' helpers. -/
import Derived.Test.YtefcdpkficojgaaDoorStmtSz
namespace Go.Proofs.YtefcdpkficojgaaDoor
open Go.RowKit
set_option linter.unusedVariables false

def z8 : V8 := ⟨0, ByteArray.empty, 0, 0, ByteArray.empty, none, 0, 0, none, 0, 0, none, 0, 0⟩
/-- a world in which the eight cells of a statement have been written -/
def put8 (w : World) (g o : Nat) (x : V8) : World := (((((((w.setCell ⟨g, o, none⟩ (Value.int .i64 x.k)).setCell ⟨g, o + 1, none⟩ (Value.string x.s)).setCell ⟨g, o + 2, none⟩ (Value.int .i64 x.tk)).setCell ⟨g, o + 3, none⟩ (Value.int .i64 x.tn)).setCell ⟨g, o + 4, none⟩ (Value.string x.ts)).setCell ⟨g, o + 5, none⟩ (Value.slice x.tA x.tm x.tc)).setCell ⟨g, o + 6, none⟩ (Value.slice x.bA x.bm x.bc)).setCell ⟨g, o + 7, none⟩ (Value.slice x.eA x.em x.ec)
theorem Own.put8 {w0 w : World} {e : TypeId} {g n cap : Nat} {xs : List Value} (h : Own w0 w e 8 (.slice (some ⟨g, 0, none⟩) n cap) n xs) (o : Nat) (x : V8) : Own w0 (put8 w g o x) e 8 (.slice (some ⟨g, 0, none⟩) n cap) n (sets xs o x.cells) :=
  (((((((h.set o (Value.int .i64 x.k)).set (o + 1) (Value.string x.s)).set (o + 2) (Value.int .i64 x.tk)).set (o + 3) (Value.int .i64 x.tn)).set (o + 4) (Value.string x.ts)).set (o + 5) (Value.slice x.tA x.tm x.tc)).set (o + 6) (Value.slice x.bA x.bm x.bc)).set (o + 7) (Value.slice x.eA x.em x.ec)
theorem StIs.put8F {lo : Nat} {w : World} {y : V8} {t : St} (h : StIs (Fr lo w) w y t) {g : Nat} (hg : g < lo) (o : Nat) (x : V8) : StIs (Fr lo (put8 w g o x)) (put8 w g o x) y t :=
  (((((((h.setF (p := ⟨g, o, none⟩) hg _).setF (p := ⟨g, o + 1, none⟩) hg _).setF (p := ⟨g, o + 2, none⟩) hg _).setF (p := ⟨g, o + 3, none⟩) hg _).setF (p := ⟨g, o + 4, none⟩) hg _).setF (p := ⟨g, o + 5, none⟩) hg _).setF (p := ⟨g, o + 6, none⟩) hg _).setF (p := ⟨g, o + 7, none⟩) hg _
theorem put8_size (w : World) (g o : Nat) (x : V8) : (put8 w g o x).heap.size = w.heap.size := by simp [put8]
theorem Own.set_other {w0 w w0' : World} {e e' : TypeId} {sz sz' n n' g g' cap cap' : Nat} {xs xs' : List Value} (h : Own w0 w e sz (.slice (some ⟨g, 0, none⟩) n cap) n xs) (h' : Own w0' w e' sz' (.slice (some ⟨g', 0, none⟩) n' cap') n' xs') (hne : g ≠ g') (hg : w0.heap.size ≤ g') (j : Nat) (u : Value) :
    Own w0 (w.setCell ⟨g', j, none⟩ u) e sz (.slice (some ⟨g, 0, none⟩) n cap) n xs :=
  ⟨h.1.kept (h'.1.stored j u).2 (by simp [Value.ownBlock]; first | exact hne | exact fun e => hne e.symm | omega), h.2.setCell hg u⟩
theorem Own.lit8 {w0 w : World} (h : Below w0.heap.size w0 w) {e : TypeId} {cs : Array Value} (hs : cs.size = 8) {g : Nat} (hg : g = w.heap.size) : Own w0 (w.alloc (.cells cs e)) e 8 (.slice (some ⟨g, 0, none⟩) 1 1) 1 cs.toList := by
  subst hg
  exact Own.lit h e 8 1 cs (by simp [maxLen]) (by omega)
/-- what a copy of a statement, of statements, comes back as -/
def RetG (w : World) (g : St) (e : Ending) (w' : World) : Prop := ∃ x : V8, e = .returned (.agg #[.int .i64 x.k, .string x.s, .int .i64 x.tk, .int .i64 x.tn, .string x.ts, .slice x.tA x.tm x.tc, .slice x.bA x.bm x.bc, .slice x.eA x.em x.ec]) ∧ StIs (Fr w.heap.size w') w' x g ∧ Below w.heap.size w w'
def RetGs (w : World) (l : List St) (e : Ending) (w' : World) : Prop := ∃ A c, e = .returned (.slice A l.length c) ∧ l.length ≤ c ∧ c ≤ maxLen ∧ StRow (Fr w.heap.size w') w' A l ∧ Below w.heap.size w w'
abbrev TgC (g : St) : Prop := ∀ (x : V8) (w : World), StIs AnyB w x g → totG g ≤ 1048576 → Calls Tryd.prog 67 #[.agg #[.int .i64 x.k, .string x.s, .int .i64 x.tk, .int .i64 x.tn, .string x.ts, .slice x.tA x.tm x.tc, .slice x.bA x.bm x.bc, .slice x.eA x.em x.ec]] w (RetG w g)
theorem sgT : ElemT Tryd.prog 36 104 8 128 := ElemT.mk' (z := .agg #[.int .i64 0, .string ByteArray.empty, .int .i64 0, .int .i64 0, .string ByteArray.empty, .slice none 0 0, .slice none 0 0, .slice none 0 0]) Tryd.underlying36 (by kernel_rfl) rfl (by decide)
theorem sgZ : (Tryd.prog.info? 104).map (fun i => i.zero) = some (some (.agg #[.int .i64 0, .string ByteArray.empty, .int .i64 0, .int .i64 0, .string ByteArray.empty, .slice none 0 0, .slice none 0 0, .slice none 0 0])) := by kernel_rfl
set_option maxHeartbeats 800000 in
theorem laws_toStmtS (ts : List St) (ih : ∀ t ∈ ts, TgC t) (A : Option Addr) (c : Nat) (w : World) (row : StRow AnyB w A ts) (hl : ts.length ≤ c) (hc : c ≤ maxLen) (ht : totGs ts ≤ 1048576) :
    Calls Tryd.prog 19 #[.slice A ts.length c] w (RetGs w ts) := by
  unfold maxLen at hc
  have IH := Lib.hid ih
  have RW := Lib.hid row
  have hlen := totGs_len ts
  have HT := Lib.hid (fun t (hm : t ∈ ts) => show totG t ≤ 1048576 from by have := totGs_le hm; omega)
  clear ih row
  go_enter Tryd.func19, Tryd.ntmps19
  go_wp2_with (at_make; refine wpList_mkN rfl _ _ 36 rfl sgT V8.cells v8_len z8 _ sgZ rfl (Below.refl _ _) _ _ _ _ ts.length rfl rfl rfl rfl (by omega) (by simp only [maxLen]; omega) ?_; intro w1 own1 hlt1 hg1)
  go_loopw [4] (fun i wr => ∃ us : List V8, us.length ≤ ts.length ∧ i = .int .i64 (us.length : Int) ∧ Own w wr 104 8 (.slice (some ⟨w.heap.size, 0, none⟩) ts.length ts.length) ts.length ((us ++ List.replicate (ts.length - us.length) z8).flatMap V8.cells) ∧ w.heap.size < wr.heap.size ∧ Hid (∀ k (hk : k < ts.length) (hk' : k < us.length), StIs (Fr (w.heap.size + 1) wr) wr us[k] ts[k])) (fun i _ => ts.length - (intOf i).toNat)
  case atStart => exact ⟨[], Nat.zero_le _, rfl, by simpa using own1, hlt1, Lib.hid (fun k _ hk => absurd hk (by simp))⟩
  case round =>
    obtain ⟨us, hk, rfl, own, hsz, HU⟩ := hrel
    have OW := Lib.hid own
    clear own own1 hlt1 hg1 hlen
    by_cases hlt : us.length < ts.length
    · obtain ⟨b, off, y, rfl, _, ⟨d0, d1, d2, d3, d4, d5, d6, d7⟩, hterm⟩ := rd_stmt (RW.out.belowA OW.out.2) hlt
      have HTm := Lib.hid hterm
      clear hterm
      have h0k : (0 : Int) ≤ (us.length : Int) := by omega
      go_wp2_with fail
      refine (IH.out _ (List.getElem_mem hlt) y _ HTm.out (HT.out _ (List.getElem_mem hlt))).mono ?_
      rintro e w1 ⟨x, rfl, ht1, b1⟩
      have T1 := Lib.hid ht1
      have B1 := Lib.hid b1
      clear ht1 b1 d0 d1 d2 d3 d4 d5 d6 d7
      have O2 := Lib.hid (OW.out.below B1.out)
      have hp : us.length < (us ++ List.replicate (ts.length - us.length) z8).length := fill_get hlt
      obtain ⟨x0, q0⟩ : ∃ x, w1.cell? ⟨w.heap.size, us.length * 8, none⟩ = some x := ⟨_, O2.out.cellAt (j := us.length * 8) (by omega) ((flat_get V8.cells 8 v8_len _ us.length 0 hp (by omega)).trans rfl)⟩
      obtain ⟨x1, q1⟩ : ∃ x, w1.cell? ⟨w.heap.size, us.length * 8 + 1, none⟩ = some x := ⟨_, O2.out.cellAt (j := us.length * 8 + 1) (by omega) ((flat_get V8.cells 8 v8_len _ us.length 1 hp (by omega)).trans rfl)⟩
      obtain ⟨x2, q2⟩ : ∃ x, w1.cell? ⟨w.heap.size, us.length * 8 + 2, none⟩ = some x := ⟨_, O2.out.cellAt (j := us.length * 8 + 2) (by omega) ((flat_get V8.cells 8 v8_len _ us.length 2 hp (by omega)).trans rfl)⟩
      obtain ⟨x3, q3⟩ : ∃ x, w1.cell? ⟨w.heap.size, us.length * 8 + 3, none⟩ = some x := ⟨_, O2.out.cellAt (j := us.length * 8 + 3) (by omega) ((flat_get V8.cells 8 v8_len _ us.length 3 hp (by omega)).trans rfl)⟩
      obtain ⟨x4, q4⟩ : ∃ x, w1.cell? ⟨w.heap.size, us.length * 8 + 4, none⟩ = some x := ⟨_, O2.out.cellAt (j := us.length * 8 + 4) (by omega) ((flat_get V8.cells 8 v8_len _ us.length 4 hp (by omega)).trans rfl)⟩
      obtain ⟨x5, q5⟩ : ∃ x, w1.cell? ⟨w.heap.size, us.length * 8 + 5, none⟩ = some x := ⟨_, O2.out.cellAt (j := us.length * 8 + 5) (by omega) ((flat_get V8.cells 8 v8_len _ us.length 5 hp (by omega)).trans rfl)⟩
      obtain ⟨x6, q6⟩ : ∃ x, w1.cell? ⟨w.heap.size, us.length * 8 + 6, none⟩ = some x := ⟨_, O2.out.cellAt (j := us.length * 8 + 6) (by omega) ((flat_get V8.cells 8 v8_len _ us.length 6 hp (by omega)).trans rfl)⟩
      obtain ⟨x7, q7⟩ : ∃ x, w1.cell? ⟨w.heap.size, us.length * 8 + 7, none⟩ = some x := ⟨_, O2.out.cellAt (j := us.length * 8 + 7) (by omega) ((flat_get V8.cells 8 v8_len _ us.length 7 hp (by omega)).trans rfl)⟩
      have r0 := O2.out.freeAt (us.length * 8)
      have r1 := O2.out.freeAt (us.length * 8 + 1)
      have r2 := O2.out.freeAt (us.length * 8 + 2)
      have r3 := O2.out.freeAt (us.length * 8 + 3)
      have r4 := O2.out.freeAt (us.length * 8 + 4)
      have r5 := O2.out.freeAt (us.length * 8 + 5)
      have r6 := O2.out.freeAt (us.length * 8 + 6)
      have r7 := O2.out.freeAt (us.length * 8 + 7)
      have e2 := flat_sets V8.cells 8 v8_len (us ++ List.replicate (ts.length - us.length) z8) us.length hp x
      rw [fill_set hlt] at e2
      have OS := O2.out.put8 (us.length * 8) x
      rw [e2] at OS
      have O3 := Lib.hid OS
      have hu : Hid (∀ k (hk : k < ts.length) (hk' : k < (us ++ [x]).length), StIs (Fr (w.heap.size + 1) (put8 w1 w.heap.size (us.length * 8) x)) (put8 w1 w.heap.size (us.length * 8) x) (us ++ [x])[k] ts[k]) := by
        refine Lib.hid fun k hk hk' => StIs.put8F ?_ (by omega) _ _
        by_cases e : k < us.length
        · rw [List.getElem_append_left e]; exact (HU.out k hk e).belowF B1.out
        · have e2 : k = us.length := by simp at hk'; omega
          subst e2
          simp only [List.getElem_concat_length]
          exact T1.out.mono hsz
      have HZ := Lib.hid (put8_size w1 w.heap.size (us.length * 8) x)
      have hs1 := B1.out.size
      clear OS e2
      go_wp2_with fail
      go_roundw
      case rel => exact ⟨us ++ [x], by simp; omega, by simp, O3.out, by have := HZ.out; simp; omega, hu⟩
      case measure => simp [intOf]; omega
    · have e : us.length = ts.length := by omega
      have OE := OW.out
      rw [e, Nat.sub_self, List.replicate_zero, List.append_nil] at OE
      have HE := Lib.hid e
      have OB := Lib.hid OE
      clear OE OW e
      go_wp2_with fail
      go_ret
      refine ⟨_, _, rfl, Nat.le_refl _, by simp only [maxLen]; omega, ⟨us, HE.out, by rw [HE.out]; exact OB.out.rd, fun b off e hn => ?_, fun k hk hk' => (HU.out k hk hk').mono (by omega)⟩, OB.out.2⟩
      injection e with e
      injection e with e1 e2
      subst e1
      rcases OB.out.1.2 with ⟨h, _⟩ | ⟨g, cap, cur, h, hb, hg, _⟩
      · simp at h
      · injection h with h
        injection h with h
        injection h with h
        subst h
        exact ⟨hb, cur, _, hg⟩
set_option maxHeartbeats 800000 in
theorem laws_toStmt (g : St) : TgC g := by
  induction hN : snodes g using Nat.strongRecOn generalizing g with
  | ind N ih =>
    intro x w hg htot
    obtain ⟨t, body, els, rfl, hk, hs, ht, hb1, hb2, hb3, rb, he1, he2, he3, re⟩ := hg.inv
    have IB : Hid (∀ y ∈ body, TgC y) := Lib.hid fun y hy => ih (snodes y) (by rw [← hN]; exact body_lt hy) y rfl
    have IE : Hid (∀ y ∈ els, TgC y) := Lib.hid fun y hy => ih (snodes y) (by rw [← hN]; exact else_lt hy) y rfl
    have htt : totT t ≤ 1048576 := by rw [totG] at htot; omega
    have htb : totGs body ≤ 1048576 := by rw [totG] at htot; omega
    have hte : totGs els ≤ 1048576 := by rw [totG] at htot; omega
    have HT := Lib.hid ht
    have RB := Lib.hid rb
    have RE := Lib.hid re
    have KK := Lib.hid hk
    have SS := Lib.hid hs
    obtain ⟨k, s, tk, tn, ts, tA, tm, tc, bA, bm, bc, eA, em, ec⟩ := x
    simp only at hb1 hb2 hb3 he1 he2 he3 RB RE KK SS
    simp only
    subst hb1 he1
    clear ih hN hg ht rb re hk hs htot
    go_enter Tryd.func67, Tryd.ntmps67
    go_wp2_with fail
    refine (laws_toTerm t tk tn ts tA tm tc _ (HT.out.belowA (by repeat' (first | exact Below.refl _ _ | exact Nat.le_refl _ | (refine Below.alloc ?_ ?_ _) | (refine Below.setCell ?_ ?_ _) | (refine Below.drew ?_) | (refine below_drewN ?_ _) | assumption | (simp; done) | (simp; omega)))) htt).mono ?_
    rintro e w1 ⟨k1, n1, s1, A1, m1, c1, rfl, t1, b1⟩
    have OA : Own w w1 100 8 (.slice (some ⟨w.heap.size, 0, none⟩) 1 1) 1 [.int .i64 k, .string s, .int .i64 tk, .int .i64 tn, .string ts, .slice tA tm tc, .slice bA body.length bc, .slice eA els.length ec] := (((Own.lit8 (Below.refl _ _) rfl rfl).alloc _).alloc _).below b1
    have OR : Own w w1 104 8 (.slice (some ⟨w.heap.size + 1, 0, none⟩) 1 1) 1 [.int .i64 0, .string ByteArray.empty, .int .i64 0, .int .i64 0, .string ByteArray.empty, .slice none 0 0, .slice none 0 0, .slice none 0 0] := ((Own.lit8 (Below.alloc (Below.refl _ _) (Nat.le_refl _) _) rfl (by simp)).alloc _).below b1
    have OO : Own w w1 104 8 (.slice (some ⟨w.heap.size + 1 + 1, 0, none⟩) 1 1) 1 [.int .i64 k, .string s, .int .i64 0, .int .i64 0, .string ByteArray.empty, .slice none 0 0, .slice none 0 0, .slice none 0 0] := (Own.lit8 (Below.alloc (Below.alloc (Below.refl _ _) (Nat.le_refl _) _) (by simp) _) rfl (by simp)).below b1
    have T1 := t1
    simp only [World.size_alloc] at T1
    have a6 := OA.cellAt (j := 6) (by omega) rfl
    have o2 := OO.cellAt (j := 2) (by omega) rfl
    have f2 := OO.freeAt 2
    have o3 := OO.cellAt (j := 3) (by omega) rfl
    have f3 := OO.freeAt 3
    have o4 := OO.cellAt (j := 4) (by omega) rfl
    have f4 := OO.freeAt 4
    have o5 := OO.cellAt (j := 5) (by omega) rfl
    have f5 := OO.freeAt 5
    have OA1 := Lib.hid (Own.set_other (Own.set_other (Own.set_other (Own.set_other OA OO (by omega) (by omega) 2 (.int .i64 k1)) (OO.set 2 (.int .i64 k1)) (by omega) (by omega) 3 (.int .i64 n1)) ((OO.set 2 (.int .i64 k1)).set 3 (.int .i64 n1)) (by omega) (by omega) 4 (.string s1)) (((OO.set 2 (.int .i64 k1)).set 3 (.int .i64 n1)).set 4 (.string s1)) (by omega) (by omega) 5 (.slice A1 m1 c1))
    have OR1 := Lib.hid (Own.set_other (Own.set_other (Own.set_other (Own.set_other OR OO (by omega) (by omega) 2 (.int .i64 k1)) (OO.set 2 (.int .i64 k1)) (by omega) (by omega) 3 (.int .i64 n1)) ((OO.set 2 (.int .i64 k1)).set 3 (.int .i64 n1)) (by omega) (by omega) 4 (.string s1)) (((OO.set 2 (.int .i64 k1)).set 3 (.int .i64 n1)).set 4 (.string s1)) (by omega) (by omega) 5 (.slice A1 m1 c1))
    have OO1 : Hid (Own w ((((w1.setCell ⟨w.heap.size + 1 + 1, 2, none⟩ (.int .i64 k1)).setCell ⟨w.heap.size + 1 + 1, 3, none⟩ (.int .i64 n1)).setCell ⟨w.heap.size + 1 + 1, 4, none⟩ (.string s1)).setCell ⟨w.heap.size + 1 + 1, 5, none⟩ (.slice A1 m1 c1)) 104 8 (.slice (some ⟨w.heap.size + 1 + 1, 0, none⟩) 1 1) 1 [.int .i64 k, .string s, .int .i64 k1, .int .i64 n1, .string s1, .slice A1 m1 c1, .slice none 0 0, .slice none 0 0]) := Lib.hid ((((OO.set 2 (.int .i64 k1)).set 3 (.int .i64 n1)).set 4 (.string s1)).set 5 (.slice A1 m1 c1))
    have TT1 := Lib.hid (((((T1.setF (p := ⟨w.heap.size + 1 + 1, 2, none⟩) (by simp) (.int .i64 k1)).setF (p := ⟨w.heap.size + 1 + 1, 3, none⟩) (by simp) (.int .i64 n1)).setF (p := ⟨w.heap.size + 1 + 1, 4, none⟩) (by simp) (.string s1)).setF (p := ⟨w.heap.size + 1 + 1, 5, none⟩) (by simp) (.slice A1 m1 c1)))
    clear t1 b1 T1 OA OR OO HT
    go_wp2_with fail
    refine (laws_toStmtS body IB.out bA bc _ (RB.out.belowA OO1.out.2) hb2 hb3 htb).mono ?_
    rintro e w2 ⟨A2, c2, rfl, hl2, hc2, row2, b2⟩
    have OA := OA1.out.below b2
    have OR := OR1.out.below b2
    have OO := OO1.out.below b2
    have T2 := Lib.hid ((TT1.out.belowF b2).setF (p := ⟨w.heap.size + 1 + 1, 6, none⟩) (by simp) (.slice A2 body.length c2))
    have hq : w.heap.size + 1 + 1 < w2.heap.size := cell_lt (OO.cellAt (j := 0) (by omega) rfl)
    have hq1 : w.heap.size + 1 + 1 < w1.heap.size := by have := cell_lt (OO1.out.cellAt (j := 0) (by omega) rfl); simpa using this
    have row2' : StRow (Fr (w.heap.size + 1 + 1 + 1) w2) w2 A2 body := row2.mono (by simp only [World.size_setCell]; omega)
    have R2 := Lib.hid (row2'.setF (p := ⟨w.heap.size + 1 + 1, 6, none⟩) (by simp) (.slice A2 body.length c2))
    have a7 := OA.cellAt (j := 7) (by omega) rfl
    have o6 := OO.cellAt (j := 6) (by omega) rfl
    have f6 := OO.freeAt 6
    have OR2 := Lib.hid (Own.set_other OR OO (by omega) (by omega) 6 (.slice A2 body.length c2))
    have OO2 : Hid (Own w (w2.setCell ⟨w.heap.size + 1 + 1, 6, none⟩ (.slice A2 body.length c2)) 104 8 (.slice (some ⟨w.heap.size + 1 + 1, 0, none⟩) 1 1) 1 [.int .i64 k, .string s, .int .i64 k1, .int .i64 n1, .string s1, .slice A1 m1 c1, .slice A2 body.length c2, .slice none 0 0]) := Lib.hid (OO.set 6 (.slice A2 body.length c2))
    clear row2 row2' b2 OA OR OO OA1 OR1 OO1 TT1 RB a6 o2 f2 o3 f3 o4 f4 o5 f5
    go_wp2_with fail
    refine (laws_toStmtS els IE.out eA ec _ (RE.out.belowA OO2.out.2) he2 he3 hte).mono ?_
    rintro e w3 ⟨A3, c3, rfl, hl3, hc3, row3, b3⟩
    have OR := OR2.out.below b3
    have OO := OO2.out.below b3
    have T3 := Lib.hid (T2.out.belowF b3)
    have R3 := Lib.hid (R2.out.belowF b3)
    have E3 : Hid (StRow (Fr (w.heap.size + 1 + 1 + 1) w3) w3 A3 els) := Lib.hid (row3.mono (by simp only [World.size_setCell]; omega))
    have hB3 := Lib.hid OO.2
    have o0 := OO.cellAt (j := 0) (by omega) rfl
    have r0 := OR.cellAt (j := 0) (by omega) rfl
    have h0 := OR.freeAt 0
    have o1 := OO.cellAt (j := 1) (by omega) rfl
    have r1 := OR.cellAt (j := 1) (by omega) rfl
    have h1 := OR.freeAt 1
    have o2 := OO.cellAt (j := 2) (by omega) rfl
    have r2 := OR.cellAt (j := 2) (by omega) rfl
    have h2 := OR.freeAt 2
    have o3 := OO.cellAt (j := 3) (by omega) rfl
    have r3 := OR.cellAt (j := 3) (by omega) rfl
    have h3 := OR.freeAt 3
    have o4 := OO.cellAt (j := 4) (by omega) rfl
    have r4 := OR.cellAt (j := 4) (by omega) rfl
    have h4 := OR.freeAt 4
    have o5 := OO.cellAt (j := 5) (by omega) rfl
    have r5 := OR.cellAt (j := 5) (by omega) rfl
    have h5 := OR.freeAt 5
    have o6 := OO.cellAt (j := 6) (by omega) rfl
    have r6 := OR.cellAt (j := 6) (by omega) rfl
    have h6 := OR.freeAt 6
    have o7 := OO.cellAt (j := 7) (by omega) rfl
    have r7 := OR.cellAt (j := 7) (by omega) rfl
    have h7 := OR.freeAt 7
    have f7 := OO.freeAt 7
    clear row3 b3 OR OO OR2 OO2 T2 R2 RE a7
    go_wp2_with fail
    refine bodyPost_ret (v := .agg #[.int .i64 k, .string s, .int .i64 k1, .int .i64 n1, .string s1, .slice A1 m1 c1, .slice A2 body.length c2, .slice A3 els.length c3]) (by simp [results, Tryd.results67, go_sem, r0, r1, r2, r3, r4, r5, r6, r7]) rfl ⟨⟨k, s, k1, n1, s1, A1, m1, c1, A2, body.length, c2, A3, els.length, c3⟩, rfl, StIs.mk' (x := ⟨k, s, k1, n1, s1, A1, m1, c1, A2, body.length, c2, A3, els.length, c3⟩) KK.out SS.out ?_ rfl hl2 hc2 ?_ rfl hl3 hc3 ?_, ?_⟩
    · exact TmIs.mono (((((((((T3.out.setF (by simp) _).setF (by simp) _).setF (by simp) _).setF (by simp) _).setF (by simp) _).setF (by simp) _).setF (by simp) _).setF (by simp) _).setF (by simp) _) (by omega)
    · exact StRow.mono (((((((((R3.out.setF (by simp) _).setF (by simp) _).setF (by simp) _).setF (by simp) _).setF (by simp) _).setF (by simp) _).setF (by simp) _).setF (by simp) _).setF (by simp) _) (by omega)
    · exact StRow.mono (((((((((E3.out.setF (by simp) _).setF (by simp) _).setF (by simp) _).setF (by simp) _).setF (by simp) _).setF (by simp) _).setF (by simp) _).setF (by simp) _).setF (by simp) _) (by omega)
    · have hb := hB3.out
      exact (((((((((hb.setCell (by simp; omega) _).setCell (by simp) _).setCell (by simp) _).setCell (by simp) _).setCell (by simp) _).setCell (by simp) _).setCell (by simp) _).setCell (by simp) _).setCell (by simp) _)
end Go.Proofs.YtefcdpkficojgaaDoor
