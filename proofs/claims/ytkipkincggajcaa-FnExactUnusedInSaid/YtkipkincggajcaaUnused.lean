/- UnusedIn: the program's closure that gathers the names that are used, and what UnusedIn comes to in the program and in the reference. -/
import Derived.Test.YtkipkincggajcaaUses
import Derived.Test.YtkipkincggajcaaConcat
namespace Go.Proofs.Ytkipkincggajcaa
open Go.RowKit
set_option linter.unusedVariables false

theorem impl_addOnceB (base : Nat) (w : World) (v : Value) (ss : List ByteArray) (x : ByteArray) (own : OwnB base w v ss) (hb : ss.length ≤ 10000000) :
    Calls Try.prog 123 #[v, .string x] w fun e w' => ∃ v', e = .returned v' ∧ OwnB base w' v' (addOnceP ss x) ∧ Grew v v' w w' :=
  (impl_addOnceG (cutW base w) w v ss x own.strs hb).mono fun _ _ ⟨v', he, ho, hg⟩ => ⟨v', he, OwnB.of own.2 ho, hg⟩
theorem Grew.apart {v v' : Value} {w w' : World} (h : Grew v v' w w') {i : Nat} (hi : i < w.heap.size) (hv : v.ownBlock ≠ some i) : v'.ownBlock ≠ some i := by
  intro e
  rcases h.lies with h1 | ⟨g, h1, h2⟩
  · exact hv (h1.symm.trans e)
  · rw [h1] at e; injection e with e; omega
theorem OwnB.below {base : Nat} {w w' : World} {v : Value} {ss : List ByteArray} (h : OwnB base w v ss) (hb : Below w.heap.size w w') : OwnB base w' v ss := h.keep (S := fun _ => True) (Keep.of_below hb) (fun _ _ => trivial)
abbrev AgC (t : Tm) : Prop := ∀ (k n : Int) (s : ByteArray) (A : Option Addr) (m c base : Nat) (w : World) (v : Value) (acc : List ByteArray), TmIs (fun i => v.ownBlock ≠ some i) w [.int .i64 k, .int .i64 n, .string s, .slice A m c] t → OwnB base w v acc → acc.length + nodes t ≤ 10000000 →
  Calls Try.prog 75 #[v, .agg #[.int .i64 k, .int .i64 n, .string s, .slice A m c]] w fun e w' => ∃ v', e = .returned v' ∧ OwnB base w' v' (readsT acc t) ∧ Grew v v' w w'
set_option maxHeartbeats 800000 in
theorem impl_addReadsG (t : Tm) : AgC t := by
  induction hN : nodes t using Nat.strongRecOn generalizing t with
  | ind N ih =>
    intro k n s A m c base w v acc ht own hb
    obtain ⟨kids, rfl, rfl, hl, hc, _, _, _, row⟩ := ht.inv
    have IH : Hid (∀ x ∈ kids, AgC x) := Lib.hid fun x hx => ih (nodes x) (by rw [← hN]; exact kid_lt hx) x rfl
    have RW := Lib.hid row
    have OW := Lib.hid own
    obtain ⟨A0, c0, rfl, hl0⟩ := own.strs.slice
    rw [nodes] at hb
    clear ih hN ht row own
    by_cases e : k = 2
    · subst e
      rw [readsT_var]
      go_enter Try.func75, Try.ntmps75
      go_wp2_with fail
      refine (impl_addOnceB base _ _ acc s (OW.out.alloc _) (by omega)).mono ?_
      rintro e w1 ⟨v1, rfl, own1, gr1⟩
      have O1 := Lib.hid own1
      have K1 := Lib.hid ((Grew.of_below (Below.alloc (Below.refl w.heap.size w) (Nat.le_refl _) _)).trans gr1)
      obtain ⟨A1, c1, rfl, _⟩ := own1.strs.slice
      clear own1 gr1
      go_wp2_with fail
      go_ret
      exact ⟨_, rfl, O1.out, K1.out⟩
    · rw [readsT_other acc e]
      have e' : (k == 2) = false := beq_eq_false_iff_ne.2 e
      unfold maxLen at hc
      clear e
      go_enter Try.func75, Try.ntmps75
      go_wp2_with fail
      go_loopw [0, 17] (fun lv i wr => ∃ j : Nat, j ≤ kids.length ∧ i = .int .i64 j ∧ ∃ A' c', lv = .slice A' (readsTs acc (kids.take j)).length c' ∧ Hid (OwnB base wr (.slice A' (readsTs acc (kids.take j)).length c') (readsTs acc (kids.take j)) ∧ Grew (.slice A0 acc.length c0) (.slice A' (readsTs acc (kids.take j)).length c') w wr)) (fun _ i _ => kids.length - (intOf i).toNat)
      case atStart => exact ⟨0, Nat.zero_le _, rfl, A0, c0, rfl, Lib.hid ⟨OW.out.alloc _, Grew.of_below (by repeat' (first | exact Below.refl _ _ | exact Nat.le_refl _ | (refine Below.alloc ?_ ?_ _) | (refine Below.setCell ?_ ?_ _) | (refine Below.drew ?_) | (refine below_drewN ?_ _) | assumption | (simp; done) | (simp; omega)))⟩⟩
      case round =>
        obtain ⟨j, hj, rfl, A', c', rfl, HO⟩ := hrel
        by_cases hlt : j < kids.length
        · have row' : TmRow (fun i => (Value.slice A' (readsTs acc (kids.take j)).length c').ownBlock ≠ some i) wr A kids := RW.out.keep (fun q hq hF => HO.out.2.keep.cell hq hF) (fun i hi hF => HO.out.2.apart hi hF)
          obtain ⟨b, off, k1, n1, s1, A1, m1, c1, rfl, _, d0, d1, d2, d3, ht1⟩ := rd_term row' hlt
          have T1 := Lib.hid ht1
          have hlb := cell_lt d0
          have hnl := nodess_split kids j hlt
          have hrl := readsTs_len acc (kids.take j)
          have HT := Lib.hid (readsTs_take acc kids j hlt)
          have h0k : (0 : Int) ≤ (j : Int) := by omega
          clear ht1 row'
          go_wp2_with fail
          refine (IH.out _ (List.getElem_mem hlt) k1 n1 s1 A1 m1 c1 base _ _ _ (T1.out.keep (fun q hq _ => (Below.alloc (Below.refl wr.heap.size wr) (Nat.le_refl _) _).cell hq) (fun _ _ h => h)) (HO.out.1.alloc _) (by omega)).mono ?_
          rintro e w1 ⟨v1, rfl, own1, gr1⟩
          rw [← HT.out] at own1
          have O1 := Lib.hid (And.intro own1 (HO.out.2.trans ((Grew.of_below (Below.alloc (Below.refl wr.heap.size wr) (Nat.le_refl _) _)).trans gr1)))
          obtain ⟨A2, c2, rfl, _⟩ := own1.strs.slice
          clear own1 gr1
          go_wp2_with fail
          go_roundw
          case rel => exact ⟨j + 1, by omega, by go_num, A2, c2, rfl, O1⟩
          case measure => simp [intOf]; omega
        · go_wp2_with fail
          go_ret
          have := HO.out
          rw [List.take_of_length_le (by omega)] at this ⊢
          exact ⟨_, rfl, this.1, this.2⟩
def usedH (acc : List ByteArray) : St → List ByteArray
  | .mk k s t _ _ => readsT (onceU k acc s) t
theorem usedH_len (acc : List ByteArray) (g : St) (hg : GdT g) : (usedH acc g).length ≤ acc.length + 128 := by
  obtain ⟨k, s, t, b, e⟩ := g
  have h1 := onceU_len k acc s
  have h2 := readsT_len (onceU k acc s) t
  have h3 := hg.nodes
  show (readsT (onceU k acc s) t).length ≤ _
  omega
theorem onceU_cases (k : Int) : useB k = true ∧ ((k == 1) = true ∨ ((k == 1) = false ∧ (k == 6) = true) ∨ ((k == 1) = false ∧ (k == 6) = false ∧ (k == 7) = true)) ∨ useB k = false ∧ (k == 1) = false ∧ (k == 6) = false ∧ (k == 7) = false := by
  unfold useB
  cases (k == 1) <;> cases (k == 6) <;> cases (k == 7) <;> simp
theorem OutAt.term {base go : Nat} {w : World} {v : Value} {acc : List ByteArray} (ho : OutAt base go w v acc) {i : Nat} (h : i ≠ go ∧ (i < base ∨ Sane 9 w i)) : v.ownBlock ≠ some i := by
  intro e
  rcases h.2 with h2 | h2
  · have := (ho.own.lt i e).1; omega
  · exact ho.own.ne h2 e
set_option maxHeartbeats 1600000 in
theorem use_step (base go : Nat) (acc : List ByteArray) (x : V8) (g : St) (w : World) (v : Value) (hb : base ≤ w.heap.size)
    (hbd : acc.length + 128 ≤ 10000000) (ho : OutAt base go w v acc) (hs : StIs (fun i => i ≠ go ∧ (i < base ∨ Sane 9 w i)) w x g) (hg : GdT g) :
    Calls Try.prog 122 #[.agg #[.int .i64 x.k, .string x.s, .int .i64 x.tk, .int .i64 x.tn, .string x.ts, .slice x.tA x.tm x.tc, .slice x.bA x.bm x.bc, .slice x.eA x.em x.ec], .pointer (some ⟨go, 0, none⟩)] w fun e w' =>
      e = .returned (.bool true) ∧ ∃ v', OutAt base go w' v' (usedH acc g) ∧ GrewAt go v v' w w' := by
  obtain ⟨t, body, els, rfl, hinv⟩ := hs.inv
  have ht := hinv.2.2.1
  have hnt := hg.nodes
  clear hinv
  show Calls Try.prog 122 _ w fun e w' => e = .returned (.bool true) ∧ ∃ v', OutAt base go w' v' (readsT (onceU x.k acc x.s) t) ∧ GrewAt go v v' w w'
  obtain ⟨xk, xs, tk, tn, ts, tA, tm, tc, bA, bm, bc, eA, em, ec⟩ := x
  simp only [V8.term] at ht ⊢
  have hol := onceU_len xk acc xs
  have BW : Hid (Below w.heap.size w (w.alloc (.cells #[.int .i64 xk, .string xs, .int .i64 tk, .int .i64 tn, .string ts, .slice tA tm tc, .slice bA bm bc, .slice eA em ec] 35))) := Lib.hid (Below.alloc (Below.refl _ _) (Nat.le_refl _) _)
  have HO : Hid (OutAt base go (w.alloc (.cells #[.int .i64 xk, .string xs, .int .i64 tk, .int .i64 tn, .string ts, .slice tA tm tc, .slice bA bm bc, .slice eA em ec] 35)) v acc) := Lib.hid (ho.alloc _)
  have TT : Hid (TmIs (fun i => i ≠ go ∧ v.ownBlock ≠ some i) w [.int .i64 tk, .int .i64 tn, .string ts, .slice tA tm tc] t) := Lib.hid (ht.keep (fun _ _ _ => rfl) (fun i _ h => ⟨h.1, ho.term h⟩))
  have BX : Hid (BoxB (w.alloc (.cells #[.int .i64 xk, .string xs, .int .i64 tk, .int .i64 tn, .string ts, .slice tA tm tc, .slice bA bm bc, .slice eA em ec] 35)) w.heap.size [.int .i64 xk, .string xs, .int .i64 tk, .int .i64 tn, .string ts, .slice tA tm tc, .slice bA bm bc, .slice eA em ec]) := Lib.hid (BoxB.lit rfl)
  have SB : Hid (Sane 9 (w.alloc (.cells #[.int .i64 xk, .string xs, .int .i64 tk, .int .i64 tn, .string ts, .slice tA tm tc, .slice bA bm bc, .slice eA em ec] 35)) w.heap.size) := Lib.hid (sane_new (by decide))
  have lg := lt_of_block ho.at'
  have c0 := cell_of_one HO.out.at'
  have f0 := free_of_one HO.out.at'
  obtain ⟨A0, q0, rfl, _⟩ := ho.own.strs.slice
  clear ht ho hs hg
  rcases onceU_cases xk with ⟨hu, hk⟩ | ⟨hu, e1, e6, e7⟩
  · have HU := Lib.hid (onceU_yes hu acc xs)
    rw [HU.out] at hol
    rcases hk with e1 | ⟨e1, e6⟩ | ⟨e1, e6, e7⟩
    all_goals
      go_enter Try.func122, Try.ntmps122
      go_wp2_with fail
      refine (impl_addOnceB base _ _ acc xs HO.out.own (by omega)).mono ?_
      rintro e w1 ⟨v1, rfl, own1, gr1⟩
      have a1 : w1.heap[go]? = some (.cells #[.slice A0 acc.length q0] 44 (0, 0)) := (gr1.keep.block go (lt_of_block HO.out.at') (HO.out.own.ne HO.out.sane)).trans HO.out.at'
      have O2 : Hid (OutAt base go (w1.setCell ⟨go, 0, none⟩ v1) v1 (addOnceP acc xs)) := Lib.hid ⟨one_setCell a1, own1.set (sane_of a1 (by decide)) _⟩
      have G2 : Hid (GrewAt go (.slice A0 acc.length q0) v1 w (w1.setCell ⟨go, 0, none⟩ v1)) := Lib.hid ((GrewAt.of_below BW.out).trans ⟨(gr1.keep.mono fun i _ hi => hi.2).setCell (p := ⟨go, 0, none⟩) (fun h => h.1 rfl) _, gr1.lies⟩)
      have B2 : Hid (BoxB (w1.setCell ⟨go, 0, none⟩ v1) w.heap.size [.int .i64 xk, .string xs, .int .i64 tk, .int .i64 tn, .string ts, .slice tA tm tc, .slice bA bm bc, .slice eA em ec]) := Lib.hid (BX.out.keepS ((gr1.keep.mono fun i _ hi => hi.2).setCell (S := fun i => i ≠ go ∧ (Value.slice A0 acc.length q0).ownBlock ≠ some i) (p := ⟨go, 0, none⟩) (fun h => h.1 rfl) v1) ⟨by omega, HO.out.own.ne SB.out⟩)
      have cc := cell_of_one a1
      have ff := free_of_one a1
      have hz1 : w.heap.size < w1.heap.size := by have := gr1.keep.size; simp at this; omega
      obtain ⟨A1, q1, rfl, _⟩ := own1.strs.slice
      have c2 := cell_of_one O2.out.at'
      have f2 := free_of_one O2.out.at'
      have x2 := B2.out 2 _ rfl
      have x3 := B2.out 3 _ rfl
      have x4 := B2.out 4 _ rfl
      have x5 := B2.out 5 _ rfl
      clear own1 gr1 a1 c0 f0
      go_wp2_with fail
      refine (impl_addReadsG t tk tn ts tA tm tc base _ _ (addOnceP acc xs) (TT.out.keep (fun q hq hF => G2.out.keep.cell hq hF) (fun i hi hF e => by
        rcases G2.out.lies with h1 | ⟨g, h1, h2⟩
        · exact hF.2 (h1.symm.trans e)
        · rw [h1] at e; injection e with e; omega)) O2.out.own (by omega)).mono ?_
      rintro e w3 ⟨v3, rfl, own3, gr3⟩
      have a3 := (gr3.keep.block go (lt_of_block O2.out.at') (O2.out.own.ne O2.out.sane)).trans O2.out.at'
      have O4 : Hid (OutAt base go (w3.setCell ⟨go, 0, none⟩ v3) v3 (readsT (addOnceP acc xs) t)) := Lib.hid ⟨one_setCell a3, own3.set (sane_of a3 (by decide)) _⟩
      have G4 : Hid (GrewAt go (.slice A0 acc.length q0) v3 w (w3.setCell ⟨go, 0, none⟩ v3)) := Lib.hid (G2.out.trans ⟨(gr3.keep.mono fun i _ hi => hi.2).setCell (p := ⟨go, 0, none⟩) (fun h => h.1 rfl) _, gr3.lies⟩)
      have c3 := cell_of_one a3
      have f3 := free_of_one a3
      obtain ⟨A3, q3, rfl, _⟩ := own3.strs.slice
      clear own3 gr3 a3 c2 f2 cc ff x2 x3 x4 x5
      go_wp2_with fail
      go_ret
      exact ⟨rfl, _, by rw [HU.out]; exact O4.out, G4.out⟩
  · have HU := Lib.hid (onceU_no hu acc xs)
    clear hu
    go_enter Try.func122, Try.ntmps122
    go_wp2_with fail
    refine (impl_addReadsG t tk tn ts tA tm tc base _ _ acc (TT.out.keep (fun q hq hF => BW.out.cell hq) (fun i hi hF => hF.2)) HO.out.own (by omega)).mono ?_
    rintro e w3 ⟨v3, rfl, own3, gr3⟩
    have a3 := (gr3.keep.block go (lt_of_block HO.out.at') (HO.out.own.ne HO.out.sane)).trans HO.out.at'
    have O4 : Hid (OutAt base go (w3.setCell ⟨go, 0, none⟩ v3) v3 (readsT acc t)) := Lib.hid ⟨one_setCell a3, own3.set (sane_of a3 (by decide)) _⟩
    have G4 : Hid (GrewAt go (.slice A0 acc.length q0) v3 w (w3.setCell ⟨go, 0, none⟩ v3)) := Lib.hid ((GrewAt.of_below BW.out).trans ⟨(gr3.keep.mono fun i _ hi => hi.2).setCell (p := ⟨go, 0, none⟩) (fun h => h.1 rfl) _, gr3.lies⟩)
    have c3 := cell_of_one a3
    have f3 := free_of_one a3
    obtain ⟨A3, q3, rfl, _⟩ := own3.strs.slice
    clear own3 gr3 a3 c0 f0
    go_wp2_with fail
    go_ret
    exact ⟨rfl, _, by rw [HU.out]; exact O4.out, G4.out⟩
end Go.Proofs.Ytkipkincggajcaa
