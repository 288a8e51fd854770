/- Several texts in one: Concat, Unused, UnusedTop. -/
import Derived.Test.YtadcebdhgocmhaaKs38
import Derived.Lib.AppendZeros
import Derived.Test.YtadcebdhgocmhaaKs49
import Derived.Test.YtadcebdhgocmhaaKs44
namespace Go.Proofs.Ytadcebdhgocmhaa
open Go.RowKit
set_option linter.unusedVariables false


set_option maxHeartbeats 800000 in
theorem slices_Grow_nil (n : Nat) (w : World) (hn : n ≤ 10000000) :
    Calls Try.prog 78 #[.slice none 0 0, .int .i64 (n : Int)] w fun e w' => ∃ A' c', e = .returned (.slice A' 0 c') ∧ OwnStrs w w' (.slice A' 0 c') [] := by
  by_cases h0 : n = 0
  · subst h0
    go_enter Try.func78, Try.ntmps78
    go_wp2_with fail
    go_ret
    exact ⟨_, _, rfl, OwnStrs.nil (Below.refl _ _)⟩
  · obtain ⟨i, z, hi, hz, hs, hbt, hzs⟩ := (strT).info
    obtain rfl : z = .string ByteArray.empty := by have := strZ; rw [hi] at this; simpa [hz] using this
    have hr := fun ty => Lib.run_append_nil_zeros (P := Try.prog) w 24 3 ty 9 i (.string ByteArray.empty) .i64 .i64 (strT).under Try.underlying3 hi hz n (by omega) (by omega) (by omega) (by rw [hbt]; omega)
    have hg1 := grownCap_ge w n 0 9
    have hg2 := grownCap_le_maxLen w n 0 9 (by unfold maxLen; omega)
    have hzc : (Value.string ByteArray.empty).cells.size = 1 := hzs
    unfold maxLen at hg2
    generalize hG : grownCap w n 0 9 = G at *
    have OW : Hid (OwnStrs w (w.drew.alloc (.cells (Builtin.zeroCells (Value.string ByteArray.empty).cells n ++ Builtin.zeroCells (Value.string ByteArray.empty).cells (G - n)) 9)) (.slice (some ⟨w.heap.size, 0, none⟩) 0 G) []) := Lib.hid
      ⟨⟨rfl, .inr ⟨_, G, _, rfl, Nat.le_refl _, heap_alloc_new w.drew _, Nat.zero_le _, by unfold maxLen; omega, by simp [size_zeroCells, hzc]; omega, by simp⟩⟩, Below.alloc (Below.refl _ _).drew (Nat.le_refl _) _⟩
    have HR := Lib.hid hr
    have h1 : 0 < n := by omega
    have h2 : (0 : Int) < (n : Int) := by omega
    have h3 : ¬ ((n : Int) < 0) := by omega
    have h4 : (0 : Int) ≤ (n : Int) := by omega
    have h5 : IntKind.i64.wrap ((n : Int) - 0) = (n : Int) := by rw [Int.sub_zero]; exact IntWalk.i64_in _ (by omega)
    clear hr hi hz hs hbt hzs hzc hG
    go_enter Try.func78, Try.ntmps78
    go_wp2_with (at_builtin; refine Lib.wpList_append_run _ rfl _ _ _ _ rfl _ _ rfl rfl _ _ (HR.out _) ?_)
    go_ret
    exact ⟨_, _, rfl, by exact OW.out⟩
def catN (n1 n2 k : Nat) : Nat := if k = 0 then 0 else if k = 1 then n1 else n1 + n2
def catL (ss tt : List ByteArray) (k : Nat) : List ByteArray := if k = 0 then [] else if k = 1 then ss else ss ++ tt
set_option maxHeartbeats 1600000 in
theorem slices_Concat2 (g : Nat) (A1 A2 : Option Addr) (c1 c2 : Nat) (ss tt : List ByteArray) (w : World) (d0 : w.cell? ⟨g, 0, none⟩ = some (.slice A1 ss.length c1)) (d1 : w.cell? ⟨g, 1, none⟩ = some (.slice A2 tt.length c2))
    (h1 : IsStrs w (.slice A1 ss.length c1) ss) (h2 : IsStrs w (.slice A2 tt.length c2) tt) (b1 : ss.length ≤ 1048576) (b2 : tt.length ≤ 1048576) :
    Calls Try.prog 39 #[.slice (some ⟨g, 0, none⟩) 2 2] w fun e w' => ∃ A' c', e = .returned (.slice A' (ss ++ tt).length c') ∧ OwnStrs w w' (.slice A' (ss ++ tt).length c') (ss ++ tt) := by
  have H1 := Lib.hid h1
  have H2 := Lib.hid h2
  have D0 := Lib.hid d0
  have D1 := Lib.hid d1
  have n0 : catN ss.length tt.length 0 = 0 := rfl
  have n1 : catN ss.length tt.length 1 = ss.length := rfl
  have n2 : catN ss.length tt.length 2 = ss.length + tt.length := rfl
  have N0 := Lib.hid n0
  have N1 := Lib.hid n1
  have N2 := Lib.hid n2
  clear h1 h2 n0 n1 n2
  go_enter Try.func39, Try.ntmps39
  go_wp2_with fail
  go_loop [3, 11] (fun sz i => ∃ k : Nat, k ≤ 2 ∧ i = .int .i64 k ∧ sz = .int .i64 (catN ss.length tt.length k : Nat)) (fun _ i => 2 - (intOf i).toNat)
  case atStart => exact ⟨0, by omega, rfl, rfl⟩
  case round =>
    obtain ⟨k, hk, rfl, rfl⟩ := hrel
    rcases (show k = 0 ∨ k = 1 ∨ k = 2 by omega) with rfl | rfl | rfl
    · rw [N0.out]
      go_wp2_with fail
      go_round
      case rel => exact ⟨1, by omega, rfl, by rw [N1.out]⟩
      case measure => simp [intOf]
    · rw [N1.out]
      go_wp2_with fail
      go_round
      case rel => exact ⟨2, by omega, rfl, by rw [N2.out]; rfl⟩
      case measure => simp [intOf]
    · rw [N2.out]
      go_wp2_with fail
      refine (slices_Grow_nil (ss.length + tt.length) _ (by omega)).mono ?_
      rintro e w1 ⟨A3, c3, rfl, own3⟩
      have O3 := Lib.hid own3
      clear own3
      go_wp2_with fail
      go_loopw [6, 27] (fun lv i wr => ∃ k : Nat, k ≤ 2 ∧ i = .int .i64 k ∧ ∃ A' c', lv = .slice A' (catL ss tt k).length c' ∧ Hid (OwnStrs w wr (.slice A' (catL ss tt k).length c') (catL ss tt k))) (fun _ i _ => 2 - (intOf i).toNat)
      case atStart => exact ⟨0, by omega, rfl, _, _, rfl, Lib.hid O3.out⟩
      case round =>
        obtain ⟨k, hk, rfl, A', c', rfl, HO⟩ := hrel
        have e0 := cell_keep HO.out.2 D0.out
        have e1 := cell_keep HO.out.2 D1.out
        rcases (show k = 0 ∨ k = 1 ∨ k = 2 by omega) with rfl | rfl | rfl
        · have I1 := Lib.hid (H1.out.below HO.out.2)
          go_wp2_with (at_builtin; refine wpList_appG rfl _ _ _ rfl strT rfl HO.out A1 ss.length c1 (ss.map Value.string) rfl (by obtain ⟨_, _, e, _, _, rd⟩ := I1.out; injection e with e1 e2 e3; subst e1; exact rd) (by intro u hu; obtain ⟨s, _, rfl⟩ := List.mem_map.1 hu; rfl) (by simp only [catL, maxLen, List.length_nil, if_true]; omega) (by simp only [catL, List.length_nil, if_true]; omega) ?_; intro v3 w3 own3 gr3; have O4 : Hid (OwnStrs w w3 v3 (catL ss tt 1)) := Lib.hid (by simpa [OwnStrs, catL] using own3); obtain ⟨A4, c4, rfl, _⟩ := O4.out.slice; clear own3 gr3)
          go_roundw
          case rel => exact ⟨1, by omega, rfl, A4, c4, rfl, O4⟩
          case measure => simp [intOf]
        · have I2 := Lib.hid (H2.out.below HO.out.2)
          go_wp2_with (at_builtin; refine wpList_appG rfl _ _ _ rfl strT rfl HO.out A2 tt.length c2 (tt.map Value.string) rfl (by obtain ⟨_, _, e, _, _, rd⟩ := I2.out; injection e with e1 e2 e3; subst e1; exact rd) (by intro u hu; obtain ⟨s, _, rfl⟩ := List.mem_map.1 hu; rfl) (by show ss.length + tt.length ≤ maxLen; unfold maxLen; omega) (by show (ss.length + tt.length) * 16 ≤ _; omega) ?_; intro v3 w3 own3 gr3; have O4 : Hid (OwnStrs w w3 v3 (catL ss tt 2)) := Lib.hid (by simpa [OwnStrs, catL] using own3); obtain ⟨A4, c4, rfl, _⟩ := O4.out.slice; clear own3 gr3)
          go_roundw
          case rel => exact ⟨2, by omega, rfl, A4, c4, rfl, O4⟩
          case measure => simp [intOf]
        · go_wp2_with fail
          go_ret
          exact ⟨_, _, rfl, HO.out⟩

theorem impl_addOnceB (base : Nat) (w : World) (v : Value) (ss : List ByteArray) (x : ByteArray) (own : OwnB base w v ss) (hb : ss.length ≤ 10000000) :
    Calls Try.prog 37 #[v, .string x] w fun e w' => ∃ v', e = .returned v' ∧ OwnB base w' v' (addOnceP ss x) ∧ Grew v v' w w' :=
  (impl_addOnceG (cutW base w) w v ss x own.strs hb).mono fun _ _ ⟨v', he, ho, hg⟩ => ⟨v', he, OwnB.of own.2 ho, hg⟩
theorem Grew.apart {v v' : Value} {w w' : World} (h : Grew v v' w w') {i : Nat} (hi : i < w.heap.size) (hv : v.ownBlock ≠ some i) : v'.ownBlock ≠ some i := by
  intro e
  rcases h.lies with h1 | ⟨g, h1, h2⟩
  · exact hv (h1.symm.trans e)
  · rw [h1] at e; injection e with e; omega
theorem OwnB.below {base : Nat} {w w' : World} {v : Value} {ss : List ByteArray} (h : OwnB base w v ss) (hb : Below w.heap.size w w') : OwnB base w' v ss := h.keep (S := fun _ => True) (Keep.of_below hb) (fun _ _ => trivial)
abbrev AgC (t : Tm) : Prop := ∀ (k n : Int) (s : ByteArray) (A : Option Addr) (m c base : Nat) (w : World) (v : Value) (acc : List ByteArray), TmIs (fun i => v.ownBlock ≠ some i) w [.int .i64 k, .int .i64 n, .string s, .slice A m c] t → OwnB base w v acc → acc.length + nodes t ≤ 10000000 →
  Calls Try.prog 38 #[v, .agg #[.int .i64 k, .int .i64 n, .string s, .slice A m c]] w fun e w' => ∃ v', e = .returned v' ∧ OwnB base w' v' (readsT acc t) ∧ Grew v v' w w'
set_option maxHeartbeats 800000 in
theorem impl_addReadsG (t : Tm) : AgC t := by
  induction hN : nodes t using Nat.strongRecOn generalizing t with
  | ind N ih =>
    intro k n s A m c base w v acc ht own hb
    obtain ⟨kids, rfl, rfl, hl, hc, _, _, _, row⟩ := ht.inv
    have IH : Hid (∀ x ∈ kids, AgC x) := Lib.hid fun x hx => ih (nodes x) (by rw [← hN]; exact kid_lt hx) x rfl
    have RW := Lib.hid row
    have OW := Lib.hid own
    obtain ⟨A0, c0, rfl, hl0⟩ := own.strs.slice
    rw [nodes] at hb
    clear ih hN ht row own
    by_cases e : k = 2
    · subst e
      rw [readsT_var]
      go_enter Try.func38, Try.ntmps38
      go_wp2_with fail
      refine (impl_addOnceB base _ _ acc s (OW.out.alloc _) (by omega)).mono ?_
      rintro e w1 ⟨v1, rfl, own1, gr1⟩
      have O1 := Lib.hid own1
      have K1 := Lib.hid ((Grew.of_below (Below.alloc (Below.refl w.heap.size w) (Nat.le_refl _) _)).trans gr1)
      obtain ⟨A1, c1, rfl, _⟩ := own1.strs.slice
      clear own1 gr1
      go_wp2_with fail
      go_ret
      exact ⟨_, rfl, O1.out, K1.out⟩
    · rw [readsT_other acc e]
      have e' : (k == 2) = false := beq_eq_false_iff_ne.2 e
      unfold maxLen at hc
      clear e
      go_enter Try.func38, Try.ntmps38
      go_wp2_with fail
      go_loopw [0, 17] (fun lv i wr => ∃ j : Nat, j ≤ kids.length ∧ i = .int .i64 j ∧ ∃ A' c', lv = .slice A' (readsTs acc (kids.take j)).length c' ∧ Hid (OwnB base wr (.slice A' (readsTs acc (kids.take j)).length c') (readsTs acc (kids.take j)) ∧ Grew (.slice A0 acc.length c0) (.slice A' (readsTs acc (kids.take j)).length c') w wr)) (fun _ i _ => kids.length - (intOf i).toNat)
      case atStart => exact ⟨0, Nat.zero_le _, rfl, A0, c0, rfl, Lib.hid ⟨OW.out.alloc _, Grew.of_below (by repeat' (first | exact Below.refl _ _ | exact Nat.le_refl _ | (refine Below.alloc ?_ ?_ _) | (refine Below.setCell ?_ ?_ _) | (refine Below.drew ?_) | (refine below_drewN ?_ _) | assumption | (simp; done) | (simp; omega)))⟩⟩
      case round =>
        obtain ⟨j, hj, rfl, A', c', rfl, HO⟩ := hrel
        by_cases hlt : j < kids.length
        · have row' : TmRow (fun i => (Value.slice A' (readsTs acc (kids.take j)).length c').ownBlock ≠ some i) wr A kids := RW.out.keep (fun q hq hF => HO.out.2.keep.cell hq hF) (fun i hi hF => HO.out.2.apart hi hF)
          obtain ⟨b, off, k1, n1, s1, A1, m1, c1, rfl, _, d0, d1, d2, d3, ht1⟩ := rd_term row' hlt
          have T1 := Lib.hid ht1
          have hlb := cell_lt d0
          have hnl := nodess_split kids j hlt
          have hrl := readsTs_len acc (kids.take j)
          have HT := Lib.hid (readsTs_take acc kids j hlt)
          have h0k : (0 : Int) ≤ (j : Int) := by omega
          clear ht1 row'
          go_wp2_with fail
          refine (IH.out _ (List.getElem_mem hlt) k1 n1 s1 A1 m1 c1 base _ _ _ (T1.out.keep (fun q hq _ => (Below.alloc (Below.refl wr.heap.size wr) (Nat.le_refl _) _).cell hq) (fun _ _ h => h)) (HO.out.1.alloc _) (by omega)).mono ?_
          rintro e w1 ⟨v1, rfl, own1, gr1⟩
          rw [← HT.out] at own1
          have O1 := Lib.hid (And.intro own1 (HO.out.2.trans ((Grew.of_below (Below.alloc (Below.refl wr.heap.size wr) (Nat.le_refl _) _)).trans gr1)))
          obtain ⟨A2, c2, rfl, _⟩ := own1.strs.slice
          clear own1 gr1
          go_wp2_with fail
          go_roundw
          case rel => exact ⟨j + 1, by omega, by go_num, A2, c2, rfl, O1⟩
          case measure => simp [intOf]; omega
        · go_wp2_with fail
          go_ret
          have := HO.out
          rw [List.take_of_length_le (by omega)] at this ⊢
          exact ⟨_, rfl, this.1, this.2⟩
def usedH (acc : List ByteArray) : St → List ByteArray
  | .mk k s t _ _ => readsT (onceU k acc s) t
theorem usedH_len (acc : List ByteArray) (g : St) (hg : GdT g) : (usedH acc g).length ≤ acc.length + 128 := by
  obtain ⟨k, s, t, b, e⟩ := g
  have h1 := onceU_len k acc s
  have h2 := readsT_len (onceU k acc s) t
  have h3 := hg.nodes
  show (readsT (onceU k acc s) t).length ≤ _
  omega
theorem onceU_cases (k : Int) : useB k = true ∧ ((k == 1) = true ∨ ((k == 1) = false ∧ (k == 6) = true) ∨ ((k == 1) = false ∧ (k == 6) = false ∧ (k == 7) = true)) ∨ useB k = false ∧ (k == 1) = false ∧ (k == 6) = false ∧ (k == 7) = false := by
  unfold useB
  cases (k == 1) <;> cases (k == 6) <;> cases (k == 7) <;> simp
theorem OutAt.term {base go : Nat} {w : World} {v : Value} {acc : List ByteArray} (ho : OutAt base go w v acc) {i : Nat} (h : i ≠ go ∧ (i < base ∨ Sane 9 w i)) : v.ownBlock ≠ some i := by
  intro e
  rcases h.2 with h2 | h2
  · have := (ho.own.lt i e).1; omega
  · exact ho.own.ne h2 e
set_option maxHeartbeats 1600000 in
theorem use_step (base go : Nat) (acc : List ByteArray) (x : V8) (g : St) (w : World) (v : Value) (hb : base ≤ w.heap.size)
    (hbd : acc.length + 128 ≤ 10000000) (ho : OutAt base go w v acc) (hs : StIs (fun i => i ≠ go ∧ (i < base ∨ Sane 9 w i)) w x g) (hg : GdT g) :
    Calls Try.prog 36 #[.agg #[.int .i64 x.k, .string x.s, .int .i64 x.tk, .int .i64 x.tn, .string x.ts, .slice x.tA x.tm x.tc, .slice x.bA x.bm x.bc, .slice x.eA x.em x.ec], .pointer (some ⟨go, 0, none⟩)] w fun e w' =>
      e = .returned (.bool true) ∧ ∃ v', OutAt base go w' v' (usedH acc g) ∧ GrewAt go v v' w w' := by
  obtain ⟨t, body, els, rfl, hinv⟩ := hs.inv
  have ht := hinv.2.2.1
  have hnt := hg.nodes
  clear hinv
  show Calls Try.prog 36 _ w fun e w' => e = .returned (.bool true) ∧ ∃ v', OutAt base go w' v' (readsT (onceU x.k acc x.s) t) ∧ GrewAt go v v' w w'
  obtain ⟨xk, xs, tk, tn, ts, tA, tm, tc, bA, bm, bc, eA, em, ec⟩ := x
  simp only [V8.term] at ht ⊢
  have hol := onceU_len xk acc xs
  have BW : Hid (Below w.heap.size w (w.alloc (.cells #[.int .i64 xk, .string xs, .int .i64 tk, .int .i64 tn, .string ts, .slice tA tm tc, .slice bA bm bc, .slice eA em ec] 36))) := Lib.hid (Below.alloc (Below.refl _ _) (Nat.le_refl _) _)
  have HO : Hid (OutAt base go (w.alloc (.cells #[.int .i64 xk, .string xs, .int .i64 tk, .int .i64 tn, .string ts, .slice tA tm tc, .slice bA bm bc, .slice eA em ec] 36)) v acc) := Lib.hid (ho.alloc _)
  have TT : Hid (TmIs (fun i => i ≠ go ∧ v.ownBlock ≠ some i) w [.int .i64 tk, .int .i64 tn, .string ts, .slice tA tm tc] t) := Lib.hid (ht.keep (fun _ _ _ => rfl) (fun i _ h => ⟨h.1, ho.term h⟩))
  have BX : Hid (BoxB (w.alloc (.cells #[.int .i64 xk, .string xs, .int .i64 tk, .int .i64 tn, .string ts, .slice tA tm tc, .slice bA bm bc, .slice eA em ec] 36)) w.heap.size [.int .i64 xk, .string xs, .int .i64 tk, .int .i64 tn, .string ts, .slice tA tm tc, .slice bA bm bc, .slice eA em ec]) := Lib.hid (BoxB.lit rfl)
  have SB : Hid (Sane 9 (w.alloc (.cells #[.int .i64 xk, .string xs, .int .i64 tk, .int .i64 tn, .string ts, .slice tA tm tc, .slice bA bm bc, .slice eA em ec] 36)) w.heap.size) := Lib.hid (sane_new (by decide))
  have lg := lt_of_block ho.at'
  have c0 := cell_of_one HO.out.at'
  have f0 := free_of_one HO.out.at'
  obtain ⟨A0, q0, rfl, _⟩ := ho.own.strs.slice
  clear ht ho hs hg
  rcases onceU_cases xk with ⟨hu, hk⟩ | ⟨hu, e1, e6, e7⟩
  · have HU := Lib.hid (onceU_yes hu acc xs)
    rw [HU.out] at hol
    rcases hk with e1 | ⟨e1, e6⟩ | ⟨e1, e6, e7⟩
    all_goals
      go_enter Try.func36, Try.ntmps36
      go_wp2_with fail
      refine (impl_addOnceB base _ _ acc xs HO.out.own (by omega)).mono ?_
      rintro e w1 ⟨v1, rfl, own1, gr1⟩
      have a1 : w1.heap[go]? = some (.cells #[.slice A0 acc.length q0] 24 (0, 0)) := (gr1.keep.block go (lt_of_block HO.out.at') (HO.out.own.ne HO.out.sane)).trans HO.out.at'
      have O2 : Hid (OutAt base go (w1.setCell ⟨go, 0, none⟩ v1) v1 (addOnceP acc xs)) := Lib.hid ⟨one_setCell a1, own1.set (sane_of a1 (by decide)) _⟩
      have G2 : Hid (GrewAt go (.slice A0 acc.length q0) v1 w (w1.setCell ⟨go, 0, none⟩ v1)) := Lib.hid ((GrewAt.of_below BW.out).trans ⟨(gr1.keep.mono fun i _ hi => hi.2).setCell (p := ⟨go, 0, none⟩) (fun h => h.1 rfl) _, gr1.lies⟩)
      have B2 : Hid (BoxB (w1.setCell ⟨go, 0, none⟩ v1) w.heap.size [.int .i64 xk, .string xs, .int .i64 tk, .int .i64 tn, .string ts, .slice tA tm tc, .slice bA bm bc, .slice eA em ec]) := Lib.hid (BX.out.keepS ((gr1.keep.mono fun i _ hi => hi.2).setCell (S := fun i => i ≠ go ∧ (Value.slice A0 acc.length q0).ownBlock ≠ some i) (p := ⟨go, 0, none⟩) (fun h => h.1 rfl) v1) ⟨by omega, HO.out.own.ne SB.out⟩)
      have cc := cell_of_one a1
      have ff := free_of_one a1
      have hz1 : w.heap.size < w1.heap.size := by have := gr1.keep.size; simp at this; omega
      obtain ⟨A1, q1, rfl, _⟩ := own1.strs.slice
      have c2 := cell_of_one O2.out.at'
      have f2 := free_of_one O2.out.at'
      have x2 := B2.out 2 _ rfl
      have x3 := B2.out 3 _ rfl
      have x4 := B2.out 4 _ rfl
      have x5 := B2.out 5 _ rfl
      clear own1 gr1 a1 c0 f0
      go_wp2_with fail
      refine (impl_addReadsG t tk tn ts tA tm tc base _ _ (addOnceP acc xs) (TT.out.keep (fun q hq hF => G2.out.keep.cell hq hF) (fun i hi hF e => by
        rcases G2.out.lies with h1 | ⟨g, h1, h2⟩
        · exact hF.2 (h1.symm.trans e)
        · rw [h1] at e; injection e with e; omega)) O2.out.own (by omega)).mono ?_
      rintro e w3 ⟨v3, rfl, own3, gr3⟩
      have a3 := (gr3.keep.block go (lt_of_block O2.out.at') (O2.out.own.ne O2.out.sane)).trans O2.out.at'
      have O4 : Hid (OutAt base go (w3.setCell ⟨go, 0, none⟩ v3) v3 (readsT (addOnceP acc xs) t)) := Lib.hid ⟨one_setCell a3, own3.set (sane_of a3 (by decide)) _⟩
      have G4 : Hid (GrewAt go (.slice A0 acc.length q0) v3 w (w3.setCell ⟨go, 0, none⟩ v3)) := Lib.hid (G2.out.trans ⟨(gr3.keep.mono fun i _ hi => hi.2).setCell (p := ⟨go, 0, none⟩) (fun h => h.1 rfl) _, gr3.lies⟩)
      have c3 := cell_of_one a3
      have f3 := free_of_one a3
      obtain ⟨A3, q3, rfl, _⟩ := own3.strs.slice
      clear own3 gr3 a3 c2 f2 cc ff x2 x3 x4 x5
      go_wp2_with fail
      go_ret
      exact ⟨rfl, _, by rw [HU.out]; exact O4.out, G4.out⟩
  · have HU := Lib.hid (onceU_no hu acc xs)
    clear hu
    go_enter Try.func36, Try.ntmps36
    go_wp2_with fail
    refine (impl_addReadsG t tk tn ts tA tm tc base _ _ acc (TT.out.keep (fun q hq hF => BW.out.cell hq) (fun i hi hF => hF.2)) HO.out.own (by omega)).mono ?_
    rintro e w3 ⟨v3, rfl, own3, gr3⟩
    have a3 := (gr3.keep.block go (lt_of_block HO.out.at') (HO.out.own.ne HO.out.sane)).trans HO.out.at'
    have O4 : Hid (OutAt base go (w3.setCell ⟨go, 0, none⟩ v3) v3 (readsT acc t)) := Lib.hid ⟨one_setCell a3, own3.set (sane_of a3 (by decide)) _⟩
    have G4 : Hid (GrewAt go (.slice A0 acc.length q0) v3 w (w3.setCell ⟨go, 0, none⟩ v3)) := Lib.hid ((GrewAt.of_below BW.out).trans ⟨(gr3.keep.mono fun i _ hi => hi.2).setCell (p := ⟨go, 0, none⟩) (fun h => h.1 rfl) _, gr3.lies⟩)
    have c3 := cell_of_one a3
    have f3 := free_of_one a3
    obtain ⟨A3, q3, rfl, _⟩ := own3.strs.slice
    clear own3 gr3 a3 c0 f0
    go_wp2_with fail
    go_ret
    exact ⟨rfl, _, by rw [HU.out]; exact O4.out, G4.out⟩

def useF (acc : List ByteArray) (g : St) : List ByteArray × Bool := (usedH acc g, true)
mutual
theorem use_visT (acc : List ByteArray) : (g : St) → visT useF acc g = (usedG acc g, true)
  | .mk k s t b e => by
    rw [visT, useF]
    simp only [usedH]
    rw [use_visTs _ b]
    simp only
    rw [use_visTs _ e, usedG_mk]
theorem use_visTs (acc : List ByteArray) : (l : List St) → visTs useF acc l = (usedGs acc l, true)
  | [] => by rw [visTs, usedGs]
  | g :: r => by
    rw [visTs, use_visT acc g]
    simp only
    rw [use_visTs _ r, usedGs]
end
def usedP (l : List Pr) : List ByteArray := l.foldl (fun acc q => usedGs acc q.body) []
def usesP (l : List Pr) : List ByteArray := l.foldl (fun acc q => usesGs acc q.body) []
theorem usedP_take (l : List Pr) (k : Nat) (h : k < l.length) : usedP (l.take (k + 1)) = usedGs (usedP (l.take k)) l[k].body := by
  have e : l.take (k + 1) = l.take k ++ [l[k]] := List.take_succ_eq_append_getElem h
  unfold usedP
  rw [e, List.foldl_append]; rfl
theorem usesP_take (l : List Pr) (k : Nat) (h : k < l.length) : usesP (l.take (k + 1)) = usesGs (usesP (l.take k)) l[k].body := by
  have e : l.take (k + 1) = l.take k ++ [l[k]] := List.take_succ_eq_append_getElem h
  unfold usesP
  rw [e, List.foldl_append]; rfl
theorem usesP_len (l : List Pr) (k : Nat) : (usesP (l.take k)).length ≤ 2 * totPrs (l.take k) := by
  induction k with
  | zero => simp [usesP]
  | succ k ih =>
    by_cases h : k < l.length
    · rw [usesP_take _ _ h, totPrs_take _ _ h]
      have h1 := usesGs_len (usesP (l.take k)) l[k].body
      have h2 : totPr l[k] = l[k].name.size + totGs l[k].body := rfl
      omega
    · rw [List.take_of_length_le (by omega)]
      rw [List.take_of_length_le (by omega)] at ih
      exact ih
theorem has_usesP (l : List Pr) (hg : ∀ q ∈ l, deepGs GdT q.body) : ∀ x, hasS (usesP l) x = hasS (usedP l) x := by
  have key : ∀ (l : List Pr) (a b : List ByteArray), (∀ q ∈ l, deepGs GdT q.body) → (∀ x, hasS a x = hasS b x) → ∀ x, hasS (l.foldl (fun acc q => usesGs acc q.body) a) x = hasS (l.foldl (fun acc q => usedGs acc q.body) b) x := by
    intro l
    induction l with
    | nil => intro a b _ h; exact h
    | cons q r ih => intro a b hg h; exact ih _ _ (fun y hy => hg y (by simp [hy])) (has_uses q.body a b (hg q (by simp)) h)
  exact key l [] [] hg fun _ => rfl
def filtU (used l : List ByteArray) : List ByteArray := l.filter fun n => !hasS used n
theorem filtU_take_no (used l : List ByteArray) (k : Nat) (h : k < l.length) (hn : hasS used l[k] = true) : filtU used (l.take (k + 1)) = filtU used (l.take k) := by
  have e : l.take (k + 1) = l.take k ++ [l[k]] := List.take_succ_eq_append_getElem h
  unfold filtU
  rw [e, List.filter_append]; simp [hn]
theorem filtU_take_yes (used l : List ByteArray) (k : Nat) (h : k < l.length) (hn : hasS used l[k] = false) : filtU used (l.take (k + 1)) = filtU used (l.take k) ++ [l[k]] := by
  have e : l.take (k + 1) = l.take k ++ [l[k]] := List.take_succ_eq_append_getElem h
  unfold filtU
  rw [e, List.filter_append]; simp [hn]
theorem filtU_len (used l : List ByteArray) (k : Nat) : (filtU used (l.take k)).length ≤ l.length := by
  unfold filtU
  have h1 := List.length_filter_le (fun n => !hasS used n) (l.take k)
  have h2 : (l.take k).length ≤ l.length := by rw [List.length_take]; omega
  omega
theorem filtU_eq {a b : List ByteArray} (h : ∀ x, hasS a x = hasS b x) (l : List ByteArray) : filtU a l = filtU b l := by
  unfold filtU
  congr 1
  funext n
  rw [h n]
noncomputable def unuR (p : Pg) : List ByteArray := if okPg p = true then filtU (usedP p.procs) (p.globals ++ p.locks) else []
theorem unuR_yes {p : Pg} (h : okPg p = true) : unuR p = filtU (usedP p.procs) (p.globals ++ p.locks) := by simp [unuR, h]
theorem unuR_no {p : Pg} (h : okPg p = false) : unuR p = [] := by simp [unuR, h]
theorem okPg_lists {p : Pg} (h : okPg p = true) : p.globals.length ≤ 6 ∧ p.locks.length ≤ 6 := by
  unfold okPg namesB at h
  simp only [Bool.and_eq_true, decide_eq_true_eq] at h
  exact ⟨h.1.1.1.1, h.1.1.2.1⟩
theorem unuR_uses {p : Pg} (h : okPg p = true) : unuR p = filtU (usesP p.procs) (p.globals ++ p.locks) := by
  rw [unuR_yes h]
  exact filtU_eq (fun x => (has_usesP p.procs (fun q hq => by
    obtain ⟨i, hi, rfl⟩ := List.getElem_of_mem hq
    exact okPr_good h hi) x).symm) _
/-- the closure that gathers the names that are used -/
def useU (W1 : World) (go : Nat) : Uses (List ByteArray) where
  k := 36
  caps := #[.pointer (some ⟨go, 0, none⟩)]
  f := useF
  I := fun acc w => (∃ v, OutAt W1.heap.size go w v acc) ∧ Keep (fun i => i ≠ go) W1 w
  K := fun _ w i => i ≠ go ∧ (i < W1.heap.size ∨ Sane 9 w i)
  Bd := fun acc n => acc.length + 128 * n ≤ 10000000
theorem useU_f (W1 : World) (go : Nat) : (useU W1 go).f = useF := rfl
theorem useU_ok (W1 : World) (go : Nat) : (useU W1 go).OkG GdT where
  step := by
    rintro acc m x g w hbd ⟨⟨v, ho⟩, hk⟩ hs hg
    have hbd' : acc.length + 128 * (m + 1) ≤ 10000000 := hbd
    refine (use_step W1.heap.size go acc x g w v hk.size (by omega) ho hs hg).mono ?_
    rintro e w' ⟨he, v', ho', hgr⟩
    have hk' : Keep (fun i => i ≠ go ∧ (i < W1.heap.size ∨ Sane 9 w i)) w w' := hgr.keep.mono fun i _ hi => ⟨hi.1, ho.term hi⟩
    refine ⟨he, ⟨⟨v', ho'⟩, hk.trans hk' fun i hi h => ⟨h, .inl hi⟩⟩, hk', fun i hi h => ⟨h.1, ?_⟩, ?_⟩
    · rcases h.2 with h2 | h2
      · exact .inl h2
      · exact .inr fun cur e => h2 cur ((hk'.block i hi h).symm.trans e)
    have := usedH_len acc g hg
    show (usedH acc g).length + 128 * m ≤ 10000000
    omega
  enter := fun args w => by kernel_rfl
  new := by
    rintro acc w cs ⟨⟨v, ho⟩, hk⟩
    refine ⟨⟨⟨v, ho.alloc _⟩, hk.alloc _⟩, ⟨?_, .inr (sane_new (by decide))⟩, fun i hi hK => ⟨hK.1, hK.2.elim .inl fun h => .inr fun cur e => h cur ((heap_alloc_lt hi).symm.trans e)⟩⟩
    have := lt_of_block ho.at'; omega
  less := fun st m n h k => by
    have k' : st.length + 128 * n ≤ 10000000 := k
    show st.length + 128 * m ≤ 10000000
    omega
set_option maxHeartbeats 1600000 in
set_option maxRecDepth 100000 in
theorem impl_UnusedIn (p : Pg) (x : V3) (w : World) (hp : PgIs w x p) (htot : totPg p ≤ 1048576) :
    Calls Try.prog 9 #[x.val p] w fun e w' => ∃ v', e = .returned v' ∧ OwnStrs w w' v' (unuR p) := by
  have HP := Lib.hid hp
  have hpl := hp.p1
  have hpc := hp.p2
  obtain ⟨gA, gc, lA, lc, pA, pc⟩ := x
  unfold V3.val
  simp only at hpl hpc ⊢
  unfold maxLen at hpc
  clear hp
  cases h : okPg p with
  | false =>
    have HU := Lib.hid (unuR_no h)
    go_enter Try.func9, Try.ntmps9
    go_wp2_with fail
    refine (impl_ProgOk p ⟨gA, gc, lA, lc, pA, pc⟩ _ (HP.out.belowA (by repeat' (first | exact Below.refl _ _ | exact Nat.le_refl _ | (refine Below.alloc ?_ ?_ _) | (refine Below.setCell ?_ ?_ _) | (refine Below.drew ?_) | (refine below_drewN ?_ _) | assumption | (simp; done) | (simp; omega)))) htot).mono ?_
    rintro e w1 ⟨rfl, b1⟩
    have B1 : Hid (Below w.heap.size w w1) := Lib.hid (Below.trans (by repeat' (first | exact Below.refl _ _ | exact Nat.le_refl _ | (refine Below.alloc ?_ ?_ _) | (refine Below.setCell ?_ ?_ _) | (refine Below.drew ?_) | (refine below_drewN ?_ _) | assumption | (simp; done) | (simp; omega))) (b1.mono (by simp)))
    rw [h]
    clear b1 h
    go_wp2_with fail
    go_ret
    exact ⟨_, rfl, by rw [HU.out]; exact OwnStrs.nil B1.out⟩
  | true =>
  have HU := Lib.hid (unuR_yes h)
  have OK := Lib.hid h
  have hpn := (okPg_procs h).1
  have hgl := (okPg_lists h).1
  have hll := (okPg_lists h).2
  go_enter Try.func9, Try.ntmps9
  go_wp2_with fail
  refine (impl_ProgOk p ⟨gA, gc, lA, lc, pA, pc⟩ _ (HP.out.belowA (by repeat' (first | exact Below.refl _ _ | exact Nat.le_refl _ | (refine Below.alloc ?_ ?_ _) | (refine Below.setCell ?_ ?_ _) | (refine Below.drew ?_) | (refine below_drewN ?_ _) | assumption | (simp; done) | (simp; omega)))) htot).mono ?_
  rintro e w1 ⟨rfl, b1⟩
  have B1 : Hid (Below w.heap.size w w1) := Lib.hid (Below.trans (by repeat' (first | exact Below.refl _ _ | exact Nat.le_refl _ | (refine Below.alloc ?_ ?_ _) | (refine Below.setCell ?_ ?_ _) | (refine Below.drew ?_) | (refine below_drewN ?_ _) | assumption | (simp; done) | (simp; omega))) (b1.mono (by simp)))
  have BX1 : Hid (BoxB w1 w.heap.size [.slice gA p.globals.length gc, .slice lA p.locks.length lc, .slice pA p.procs.length pc]) := Lib.hid (BoxB.below (BoxB.lit rfl) b1)
  have hz0 : w.heap.size < w1.heap.size := by have := b1.size; simp at this; omega
  have p0 := BX1.out 0 _ rfl
  have p1 := BX1.out 1 _ rfl
  have p2 := BX1.out 2 _ rfl
  rw [h]
  clear b1 h
  go_wp2_with fail
  generalize hW : w1.alloc (.cells #[.slice none 0 0] 24) = W1
  have b11 : Below w1.heap.size w1 W1 := by rw [← hW]; exact Below.alloc (Below.refl _ _) (Nat.le_refl _) _
  have hz3 : W1.heap.size = w1.heap.size + 1 := by rw [← hW]; simp
  have B11 := Lib.hid (B1.out.trans (b11.mono B1.out.size))
  have BXW := Lib.hid (BX1.out.below b11)
  have OO : Hid (OutAt W1.heap.size w1.heap.size W1 (.slice none 0 0) []) := Lib.hid ⟨by rw [← hW]; exact heap_alloc_new _ _, ⟨World.ownsRow_nil _ _ _ _, Nat.le_refl _⟩⟩
  clear hW b11 p0 p1 p2 BX1
  go_loopw [15] (fun i wr => ∃ k : Nat, k ≤ p.procs.length ∧ i = .int .i64 k ∧ Hid ((∃ v, OutAt W1.heap.size w1.heap.size wr v (usedP (p.procs.take k))) ∧ Keep (fun i => i ≠ w1.heap.size) W1 wr ∧ (usedP (p.procs.take k)).length + 128 * (60 * (8 - k)) ≤ 10000000)) (fun i _ => p.procs.length - (intOf i).toNat)
  case atStart => exact ⟨0, Nat.zero_le _, rfl, Lib.hid ⟨⟨_, OO.out⟩, Keep.refl _ _, by simp [usedP]⟩⟩
  case round =>
    obtain ⟨k, hk, rfl, HR⟩ := hrel
    rename World => wq
    obtain ⟨⟨v, ho⟩, hkp, hbd⟩ := HR.out
    have HO := Lib.hid ho
    have HK := Lib.hid hkp
    have BW := Lib.hid (B11.out.trans (hkp.below B11.out.size (fun b hb => by omega)))
    by_cases hlt : k < p.procs.length
    · obtain ⟨b, off, y, rfl, d0, d1, hnm, hym, _, hbc, hcm, row⟩ := rd_proc HP.out.p3 hlt
      replace d0 := cell_keep BW.out d0
      replace d1 := cell_keep BW.out d1
      rw [hym] at d1
      have ROW := Lib.hid row
      have hlb := cell_lt d0
      have hsn := fit_bound OK.out hlt
      have GG := Lib.hid (okPr_good OK.out hlt)
      have HT := Lib.hid (usedP_take p.procs k hlt)
      have h0k : (0 : Int) ≤ (k : Int) := by omega
      have hzr := HK.out.size
      clear hnm hym row ho hkp HR
      go_wp2_with fail
      refine (impl_visitStmtsG GdT (useU W1 w1.heap.size) (useU_ok W1 w1.heap.size) p.procs[k].body (usedP (p.procs.take k)) (60 * (8 - (k + 1))) y.A y.c _ ?_ ⟨⟨_, HO.out.alloc _⟩, HK.out.alloc _⟩ ?_ hbc hcm GG.out).mono ?_
      · show (usedP (p.procs.take k)).length + 128 * (60 * (8 - (k + 1)) + snodess p.procs[k].body) ≤ 10000000
        omega
      · exact ROW.out.keep (fun q hq _ => (Below.trans BW.out ((Below.alloc (Below.refl _ _) (Nat.le_refl _) _).mono BW.out.size)).cell hq) (fun i hi _ => ⟨by omega, .inl (by omega)⟩)
      rintro e w5 ⟨rfl, ⟨⟨v5, o5⟩, k5⟩, _, _, bd5⟩
      rw [useU_f, use_visTs] at o5 bd5
      simp only at o5
      rw [← HT.out] at o5 bd5
      have R5 : Hid ((∃ v, OutAt W1.heap.size w1.heap.size w5 v (usedP (p.procs.take (k + 1)))) ∧ Keep (fun i => i ≠ w1.heap.size) W1 w5 ∧ (usedP (p.procs.take (k + 1))).length + 128 * (60 * (8 - (k + 1))) ≤ 10000000) := Lib.hid ⟨⟨v5, o5⟩, k5, bd5⟩
      clear o5 k5 bd5
      go_wp2_with fail
      go_roundw
      case rel => exact ⟨k + 1, by omega, by go_num, R5⟩
      case measure => simp [intOf]; omega
    · have TK : Hid (p.procs.take k = p.procs) := Lib.hid (List.take_of_length_le (by omega))
      have HO2 : Hid (OutAt W1.heap.size w1.heap.size wq v (usedP p.procs)) := Lib.hid (by have := HO.out; rwa [TK.out] at this)
      have c1 := cell_of_one HO2.out.at'
      have BXR : Hid (BoxB wq w.heap.size [.slice gA p.globals.length gc, .slice lA p.locks.length lc, .slice pA p.procs.length pc]) := Lib.hid (BXW.out.keepS HK.out (by omega))
      have p0 := BXR.out 0 _ rfl
      have p1 := BXR.out 1 _ rfl
      have PQ := Lib.hid (HP.out.belowA BW.out)
      obtain ⟨A7, c7, rfl, _⟩ := HO2.out.own.strs.slice
      have CU := Lib.hid c1
      clear ho hkp HR HO HK
      go_wp2_with fail
      refine (slices_Concat2 wq.heap.size gA lA gc lc p.globals p.locks _ (by rw [World.cell?_alloc_new]; rfl) (by rw [World.cell?_alloc_new]; rfl) (PQ.out.gs.below (Below.alloc (Below.refl _ _) (Nat.le_refl _) _)) (PQ.out.ls.below (Below.alloc (Below.refl _ _) (Nat.le_refl _) _)) (by omega) (by omega)).mono ?_
      rintro e w5 ⟨A5, c5, rfl, own5⟩
      have B5 : Hid (Below wq.heap.size wq w5) := Lib.hid (Below.trans (Below.alloc (Below.refl _ _) (Nat.le_refl _) _) (own5.2.mono (by simp)))
      have O5 := Lib.hid own5
      have hal : (p.globals ++ p.locks).length ≤ 12 := by rw [List.length_append]; omega
      have hc5 := own_cap' own5
      unfold maxLen at hc5
      clear own5 p0 p1 c1
      generalize hall : p.globals ++ p.locks = all at *
      clear hall
      go_wp2_with fail
      go_loopw [6, 31] (fun lv i wr => ∃ j : Nat, j ≤ all.length ∧ i = .int .i64 j ∧ ∃ A' c', lv = .slice A' (filtU (usedP p.procs) (all.take j)).length c' ∧ Hid (OwnStrs w5 wr (.slice A' (filtU (usedP p.procs) (all.take j)).length c') (filtU (usedP p.procs) (all.take j)))) (fun _ i _ => all.length - (intOf i).toNat)
      case atStart => exact ⟨0, Nat.zero_le _, rfl, none, 0, rfl, Lib.hid (OwnStrs.nil (Below.refl _ _))⟩
      case round =>
        obtain ⟨j, hj, rfl, A', c', rfl, HF⟩ := hrel
        have HF2 := Lib.hid HF.out.2
        have cu := cell_keep HF2.out (cell_keep B5.out CU.out)
        have hfl := filtU_len (usedP p.procs) all j
        by_cases hlt2 : j < all.length
        · obtain ⟨rb, ro, rfl, hcell⟩ := rd_str ((Own.rd O5.out).below HF2.out) hlt2
          have UI : Hid (IsStrs wr (.slice A7 (usedP p.procs).length c7) (usedP p.procs)) := Lib.hid ((HO2.out.own.isStrs.below B5.out).below HF2.out)
          have h0j : (0 : Int) ≤ (j : Int) := by omega
          have h1j : (j : Int) < (all.length : Int) := by omega
          cases hh : hasS (usedP p.procs) all[j] with
          | true =>
            have HT := Lib.hid (filtU_take_no (usedP p.procs) all j hlt2 hh)
            have HH := Lib.hid hh
            clear hh
            go_wp2_with fail
            refine (slices_Contains _ (usedP p.procs) all[j] _ UI.out).mono ?_
            rintro e w6 ⟨rfl, rfl⟩
            rw [HH.out]
            go_wp2_with fail
            go_roundw
            case rel => exact ⟨j + 1, by omega, by go_num, A', c', by rw [HT.out], by rw [HT.out]; exact HF⟩
            case measure => simp [intOf]; omega
          | false =>
            have HT := Lib.hid (filtU_take_yes (usedP p.procs) all j hlt2 hh)
            have HH := Lib.hid hh
            clear hh
            go_wp2_with fail
            refine (slices_Contains _ (usedP p.procs) all[j] _ UI.out).mono ?_
            rintro e w6 ⟨rfl, rfl⟩
            rw [HH.out]
            go_wp2_with (at_builtin; refine wpList_appG_new wr.heap.size rfl rfl _ _ _ rfl strT HF.out _ 1 rfl rfl rfl (by simp [Value.oneCell']) (by simp only [maxLen]; omega) (by omega) ?_; intro v8 w8 own8 gr8; have O8 : Hid (OwnStrs w5 w8 v8 (filtU (usedP p.procs) (all.take (j + 1)))) := Lib.hid (by rw [HT.out]; unfold OwnStrs; rw [List.length_append, ← map_snoc]; exact own8); obtain ⟨A8, c8, rfl, _⟩ := O8.out.slice; clear own8 gr8)
            go_roundw
            case rel => exact ⟨j + 1, by omega, by go_num, A8, c8, rfl, O8⟩
            case measure => simp [intOf]; omega
        · go_wp2_with fail
          go_ret
          have := HF.out
          rw [List.take_of_length_le (by omega)] at this ⊢
          refine ⟨_, rfl, ?_⟩
          rw [HU.out]
          exact this.base (below_then BW.out B5.out)
end Go.Proofs.Ytadcebdhgocmhaa
