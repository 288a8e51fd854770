/- The reference's l11Reach: a matrix of bools in rows apart. -/
import Derived.Test.YtfnjllaaadhbbaaGraph
import Derived.Test.YtfnjllaaadhbbaaKeep
import Derived.Deep.RegionHeld3
import Derived.BigRegion
import Derived.OneCell
import Derived.Laws.Rows
namespace Go.Proofs.Ytfnjllaaadhbbaa
open Go.RowKit
set_option linter.unusedVariables false

def rowB (n : Nat) (f : Nat → Bool) : List Value := (List.range n).map fun j => .bool (f j)
theorem rowB_len (n : Nat) (f : Nat → Bool) : (rowB n f).length = n := by simp [rowB]
theorem rowB_get {n j : Nat} (f : Nat → Bool) (h : j < n) : (rowB n f)[j]? = some (.bool (f j)) := by simp [rowB, h]
theorem rowB_set {n j : Nat} (f : Nat → Bool) (b : Bool) : (rowB n f).set j (.bool b) = rowB n (fun x => if x = j then b else f x) := by
  apply List.ext_getElem?
  intro k
  rw [List.getElem?_set]
  by_cases hk : k < n
  · rw [rowB_get _ hk]
    by_cases e : j = k
    · subst e; rw [if_pos rfl, if_pos (by rw [rowB_len]; exact hk), rowB_get _ hk, if_pos rfl]
    · rw [if_neg e, rowB_get _ hk, if_neg (fun h => e h.symm)]
  · rw [List.getElem?_eq_none (l := rowB n fun x => if x = j then b else f x) (by rw [rowB_len]; omega)]
    split
    · rw [if_neg (by rw [rowB_len]; omega)]
    · rw [List.getElem?_eq_none (by rw [rowB_len]; omega)]
theorem rowB_false (n : Nat) : List.replicate n (Value.bool false) = rowB n (fun _ => false) := by
  apply List.ext_getElem?
  intro k
  by_cases hk : k < n
  · rw [rowB_get _ hk, List.getElem?_replicate, if_pos hk]
  · rw [List.getElem?_eq_none (by simp; omega), List.getElem?_eq_none (by rw [rowB_len]; omega)]
def setR (R : Rel) (i j : Nat) : Rel := fun a b => if a = i ∧ b = j then true else R a b
theorem matT : ElemT Try.prog 48 50 1 24 := ElemT.mk' (z := .slice none 0 0) Try.underlying48 (by kernel_rfl) rfl (by decide)
theorem boolT : ElemT Try.prog 50 4 1 1 := ElemT.mk' (z := .bool false) Try.underlying50 (by kernel_rfl) rfl (by decide)
theorem boolZ : (Try.prog.info? 4).map (fun i => i.zero) = some (some (.bool false)) := by kernel_rfl
/-- a matrix of bools, n columns wide, its rows in blocks apart -/
structure MatO (w0 w : World) (n : Nat) (A : Option Addr) (c : Nat) (gs : List Nat) (R : Rel) : Prop where
  nd : gs.Nodup
  own : Own w0 w 50 1 (.slice A gs.length c) gs.length (gs.map fun g => Value.slice (some ⟨g, 0, none⟩) n n)
  row : ∀ i (h : i < gs.length), w0.heap.size ≤ gs[i] ∧ w.heap[gs[i]]? = some (.cells (rowB n (R i)).toArray 4 (0, 0))
theorem MatO.cell {w0 w : World} {n c i j : Nat} {A : Option Addr} {gs : List Nat} {R : Rel} (h : MatO w0 w n A c gs R) (hi : i < gs.length) (hj : j < n) : w.cell? ⟨gs[i], j, none⟩ = some (.bool (R i j)) := by
  have hh := (h.row i hi).2
  simp only [World.cell?, hh]
  have := rowB_get (n := n) (R i) hj
  simpa using this
theorem MatO.free {w0 w : World} {n c i : Nat} {A : Option Addr} {gs : List Nat} {R : Rel} (h : MatO w0 w n A c gs R) (hi : i < gs.length) (j : Nat) : w.frozen? ⟨gs[i], j, none⟩ = false := by
  have hh := (h.row i hi).2
  simp [World.frozen?, hh]
theorem MatO.rd {w0 w : World} {n c i : Nat} {A : Option Addr} {gs : List Nat} {R : Rel} (h : MatO w0 w n A c gs R) (hi : i < gs.length) : ∃ b, A = some ⟨b, 0, none⟩ ∧ w.cell? ⟨b, i, none⟩ = some (.slice (some ⟨gs[i], 0, none⟩) n n) := by
  obtain ⟨g, cap, hv, _, _⟩ := h.own.1.form (by omega)
  have hA : A = some ⟨g, 0, none⟩ := by injection hv
  subst hA
  refine ⟨g, rfl, h.own.cellAt (by omega) ?_⟩
  rw [List.getElem?_map, List.getElem?_eq_getElem hi]; rfl
theorem MatO.ne {w0 w : World} {n c i : Nat} {A : Option Addr} {gs : List Nat} {R : Rel} (h : MatO w0 w n A c gs R) (hi : i < gs.length) : (Value.slice A gs.length c).ownBlock ≠ some gs[i] := by
  intro e
  have hh := (h.row i hi).2
  rcases h.own.1.2 with ⟨e0, _⟩ | ⟨g, cap, cur, e0, _, hg, _⟩
  · rw [e0] at e; cases e
  · rw [e0] at e
    injection e with e
    simp only at e
    rw [← e, hg] at hh
    injection hh with hh
    injection hh with _ hh
    exact absurd hh (by decide)
theorem MatO.below {w0 w w' : World} {n c : Nat} {A : Option Addr} {gs : List Nat} {R : Rel} (h : MatO w0 w n A c gs R) (hb : Below w.heap.size w w') : MatO w0 w' n A c gs R :=
  ⟨h.nd, h.own.below hb, fun i hi => ⟨(h.row i hi).1, (hb.block _ (lt_of_block (h.row i hi).2)).trans (h.row i hi).2⟩⟩
theorem MatO.drew {w0 w : World} {n c : Nat} {A : Option Addr} {gs : List Nat} {R : Rel} (h : MatO w0 w n A c gs R) : MatO w0 w.drew n A c gs R := h.below (Below.refl _ _).drew
theorem MatO.set {w0 w : World} {n c i j : Nat} {A : Option Addr} {gs : List Nat} {R : Rel} (h : MatO w0 w n A c gs R) (hi : i < gs.length) : MatO w0 (w.setCell ⟨gs[i], j, none⟩ (.bool true)) n A c gs (setR R i j) := by
  refine ⟨h.nd, ⟨ownsRow_setCell_other h.own.1 (a := ⟨gs[i], j, none⟩) (h.ne hi) _, Below.setCell h.own.2 (h.row i hi).1 _⟩, fun k hk => ⟨(h.row k hk).1, ?_⟩⟩
  by_cases e : k = i
  · subst e
    rw [heap_setCell_same w gs[k] j _ _ _ (h.row k hk).2]
    have hs := rowB_set (n := n) (j := j) (R k) true
    have : (rowB n (R k)).toArray.setIfInBounds j (.bool true) = (rowB n (setR R k j k)).toArray := by
      rw [List.setIfInBounds_toArray, hs]
      congr 2
      funext x
      unfold setR
      by_cases hx : x = j <;> simp [hx]
    rw [this]
  · have hne : gs[k] ≠ gs[i] := fun e2 => e ((List.getElem?_inj hk h.nd).1 (by rw [List.getElem?_eq_getElem hk, List.getElem?_eq_getElem hi, e2]))
    rw [Below.heap_setCell _ _ _ _ hne, (h.row k hk).2]
    have : R k = setR R i j k := by
      funext x
      unfold setR
      rw [if_neg (fun h => e h.1)]
    rw [← this]
theorem MatO.congr {w0 w : World} {n c : Nat} {A : Option Addr} {gs : List Nat} {R R' : Rel} (h : MatO w0 w n A c gs R) (he : ∀ i j, i < gs.length → j < n → R i j = R' i j) : MatO w0 w n A c gs R' :=
  ⟨h.nd, h.own, fun i hi => ⟨(h.row i hi).1, by
    rw [(h.row i hi).2]
    have : rowB n (R i) = rowB n (R' i) := by
      unfold rowB
      apply List.map_congr_left
      intro j hj
      rw [he i j hi (by simpa using hj)]
    rw [this]⟩⟩
/-- row q has had its step below column j -/
def cellR (R : Rel) (m q j : Nat) : Rel := fun a b => if a = q ∧ ¬ b < j then R q b else mixR R m (q + 1) a b
theorem cellR_zero (R : Rel) (m q : Nat) : cellR R m q 0 = mixR R m q := by
  funext a b
  unfold cellR
  by_cases e : a = q
  · subst e; rw [if_pos ⟨rfl, by omega⟩, mixR_at]
  · rw [if_neg (fun h => e h.1), mixR_succ, if_neg e]
theorem cellR_all {R : Rel} {m q n j b : Nat} (hj : n ≤ j) (hb : b < n) (a : Nat) : cellR R m q j a b = mixR R m (q + 1) a b := by
  unfold cellR
  rw [if_neg (fun h => h.2 (by omega))]
theorem cellR_at (R : Rel) (m q j : Nat) : cellR R m q j q j = R q j := by unfold cellR; rw [if_pos ⟨rfl, by omega⟩]
theorem cellR_row (R : Rel) (m q j b : Nat) : cellR R m q j m b = R m b := by
  unfold cellR
  by_cases e : m = q
  · subst e
    by_cases h : b < j
    · rw [if_neg (fun h' => h'.2 h), mixR_row]
    · rw [if_pos ⟨rfl, h⟩]
  · rw [if_neg (fun h => e h.1), mixR_row]
theorem cellR_col (R : Rel) (m q j : Nat) : cellR R m q j q m = R q m := by
  unfold cellR
  by_cases h : m < j
  · rw [if_neg (fun h' => h'.2 h), mixR_succ, if_pos rfl]
    unfold stepR
    cases R q m <;> simp
  · rw [if_pos ⟨rfl, h⟩]
theorem cellR_set {R : Rel} {m q j : Nat} (h1 : R q m = true) (h2 : R m j = true) : setR (cellR R m q j) q j = cellR R m q (j + 1) := by
  funext a b
  unfold setR
  by_cases e : a = q ∧ b = j
  · rw [if_pos e, e.1, e.2]
    unfold cellR
    rw [if_neg (fun h => h.2 (by omega)), mixR_succ, if_pos rfl]
    unfold stepR
    rw [h1, h2]; simp
  · rw [if_neg e]
    unfold cellR
    by_cases ea : a = q
    · subst ea
      have hb : b ≠ j := fun h => e ⟨rfl, h⟩
      by_cases hlt : b < j
      · rw [if_neg (fun h => h.2 hlt), if_neg (fun h => h.2 (by omega))]
      · rw [if_pos ⟨rfl, hlt⟩, if_pos ⟨rfl, by omega⟩]
    · rw [if_neg (fun h => ea h.1), if_neg (fun h => ea h.1)]
theorem cellR_skip {R : Rel} {m q j : Nat} (h2 : R m j = false) : cellR R m q j = cellR R m q (j + 1) := by
  funext a b
  unfold cellR
  by_cases ea : a = q
  · subst ea
    by_cases hlt : b < j
    · rw [if_neg (fun h => h.2 hlt), if_neg (fun h => h.2 (by omega))]
    · by_cases hb : b = j
      · subst hb
        rw [if_pos ⟨rfl, hlt⟩, if_neg (fun h => h.2 (by omega)), mixR_succ, if_pos rfl]
        unfold stepR
        rw [h2]; simp
      · rw [if_pos ⟨rfl, hlt⟩, if_pos ⟨rfl, by omega⟩]
  · rw [if_neg (fun h => ea h.1), if_neg (fun h => ea h.1)]
theorem mixR_skip {R : Rel} {m q : Nat} (h : R q m = false) : mixR R m q = mixR R m (q + 1) := by
  funext a b
  rw [mixR_succ]
  by_cases e : a = q
  · subst e
    rw [if_pos rfl, mixR_at]
    unfold stepR
    rw [h]; simp
  · rw [if_neg e]
theorem cellR_exit {R : Rel} {m q j : Nat} (h : R q m = false) : cellR R m q j = mixR R m (q + 1) := by
  funext a b
  unfold cellR
  by_cases e : a = q ∧ ¬ b < j
  · rw [if_pos e, mixR_succ, if_pos e.1, e.1]
    unfold stepR
    rw [h]; simp
  · rw [if_neg e]
theorem arc_set {ars : List Arc2} {k f t : Nat} (h : k < ars.length) (hf : ars[k].1 = (f : Int)) (ht : ars[k].2 = (t : Int)) : setR (arcR (ars.take k)) f t = arcR (ars.take (k + 1)) := by
  funext a b
  rw [arcR_take h, hf, ht]
  unfold setR
  by_cases e : a = f ∧ b = t
  · rw [if_pos e, e.1, e.2]; simp
  · rw [if_neg e]
    have : (decide ((f : Int) = (a : Int)) && decide ((t : Int) = (b : Int))) = false := by
      rw [Bool.and_eq_false_iff, decide_eq_false_iff_not, decide_eq_false_iff_not]
      by_cases e1 : a = f
      · exact .inr fun h => e ⟨e1, by omega⟩
      · exact .inl fun h => e1 (by omega)
    rw [this, Bool.or_false]
set_option maxHeartbeats 3200000 in
set_option maxRecDepth 100000 in
theorem spec_l11Reach (n : Nat) (v : Value) (ars : List Arc2) (w : World) (h : IsArcs w v ars) (hn : n ≤ 60) (hok : ars.all (arcOk (n : Int)) = true) (hal : ars.length ≤ 2000) :
    Calls Try.prog 27 #[.int .i64 (n : Int), v] w fun e w' => ∃ A c gs, e = .returned (.slice A n c) ∧ gs.length = n ∧ c ≤ maxLen ∧ MatO w w' n A c gs (warsh (arcR ars) n) := by
  obtain ⟨A, c, rfl, h2, h3, rd⟩ := h
  unfold maxLen at h3
  have RD := Lib.hid rd
  have OK := Lib.hid hok
  clear rd hok
  go_enter Try.func27, Try.ntmps27
  go_wp2_with fail
  have OE : Hid (MatO w (w.alloc (.cells #[] 50)) n (some ⟨w.heap.size, 0, none⟩) 0 [] (fun _ _ => false)) := Lib.hid ⟨List.nodup_nil, Own.lit (Below.refl _ _) _ 1 0 #[] (by simp [maxLen]) rfl, fun i hi => absurd hi (by simp)⟩
  go_loopw [5, 6] (fun lv i wr => ∃ k : Nat, k ≤ n ∧ i = .int .i64 k ∧ ∃ A' c', lv = .slice A' k c' ∧ Hid (∃ gs, gs.length = k ∧ MatO w wr n A' c' gs (fun _ _ => false))) (fun _ i _ => n - (intOf i).toNat)
  case atStart => exact ⟨0, Nat.zero_le _, rfl, _, _, rfl, Lib.hid ⟨[], rfl, OE.out⟩⟩
  case round =>
    obtain ⟨k, hk, rfl, A', c', rfl, HM⟩ := hrel
    obtain ⟨gs, hgl, mo⟩ := HM.out
    by_cases hlt : k < n
    · have MO := Lib.hid mo
      have HG := Lib.hid hgl
      have h0k : (0 : Int) ≤ (k : Int) := by omega
      clear mo HM hgl
      go_wp2_with (first
        | (at_make; refine wpList_mk1 (w0 := wr) rfl _ _ 50 rfl boolT (.bool false) boolZ rfl (Below.refl _ _) _ _ _ _ n rfl rfl rfl rfl (by omega) (by simp only [maxLen]; omega) ?_; intro g w1 own1; have O1 := Lib.hid own1; have M1 := Lib.hid (MO.out.below own1.2); have OX : Hid (Own w w1 50 1 (.slice A' k c') k (gs.map fun g => Value.slice (some ⟨g, 0, none⟩) n n)) := Lib.hid (by have := M1.out.own; rwa [HG.out] at this); clear own1)
        | (at_builtin; refine wpList_app_keep rfl _ _ _ rfl matT OX.out _ 1 rfl rfl rfl (by simp [Value.oneCell']) (by simp only [maxLen]; omega) (by omega) ?_; intro v3 w3 own3 kp3))
      have M3 : Hid (∃ A3 c3, v3 = .slice A3 (k + 1) c3 ∧ ∃ gs', gs'.length = k + 1 ∧ MatO w w3 n A3 c3 gs' (fun _ _ => false)) := Lib.hid (by
        obtain ⟨A3, c3, rfl, _⟩ := own3.slice
        obtain ⟨cap, cur, hcap, hb1, hh, _, _, hcs, htk⟩ : ∃ cap cur, Value.slice (some ⟨g, 0, none⟩) n n = .slice (some ⟨g, 0, none⟩) n cap ∧ wr.heap.size ≤ g ∧ w1.heap[g]? = some (.cells cur 4 (0, 0)) ∧ n ≤ cap ∧ cap ≤ maxLen ∧ cur.size = cap * 1 ∧ cur.toList.take (n * 1) = List.replicate n (.bool false) := by
          rcases O1.out.1.2 with ⟨h0, _⟩ | ⟨g', cap, cur, e, r⟩
          · cases h0
          · injection e with e1 e2 e3
            injection e1 with e1
            injection e1 with e1
            subst e1; subst e3
            exact ⟨_, cur, rfl, r⟩
        injection hcap with _ _ hcap
        subst hcap
        have hcur : cur = (rowB n (fun _ => false)).toArray := by
          apply Array.ext'
          rw [← rowB_false, ← htk]
          rw [List.take_of_length_le (by rw [Array.length_toList, hcs]; exact Nat.le_refl _)]
        refine ⟨A3, c3, rfl, gs ++ [g], by rw [List.length_append, HG.out]; rfl, ?_, ?_, ?_⟩
        · rw [List.nodup_append]
          refine ⟨M1.out.nd, by simp, fun a ha b hb hab => ?_⟩
          rw [List.mem_singleton] at hb
          subst hb; subst hab
          obtain ⟨i, hi, hia⟩ := List.getElem_of_mem ha
          have := lt_of_block (MO.out.row i hi).2
          omega
        · have : (gs ++ [g]).length = k + 1 := by rw [List.length_append, HG.out]; rfl
          rw [this, List.map_append]
          exact own3
        · intro i hi
          rw [List.length_append, List.length_singleton] at hi
          by_cases e : i < gs.length
          · rw [List.getElem_append_left e]
            refine ⟨(M1.out.row i e).1, (kp3.block _ (lt_of_block (M1.out.row i e).2) (sane_of (M1.out.row i e).2 (by decide))).trans (M1.out.row i e).2⟩
          · have ei : i = gs.length := by omega
            subst ei
            rw [List.getElem_append_right (Nat.le_refl _)]
            simp only [Nat.sub_self, List.getElem_cons_zero]
            refine ⟨Nat.le_trans MO.out.own.2.size hb1, (kp3.block _ (lt_of_block hh) (sane_of hh (by decide))).trans ?_⟩
            rw [hh, hcur])
      obtain ⟨A3, c3, rfl, hgs⟩ := M3.out
      have G3 := Lib.hid hgs
      clear own3 kp3 M3 hgs O1 M1 OX
      go_roundw
      case rel => exact ⟨k + 1, by omega, by go_num, A3, c3, rfl, G3⟩
      case measure => simp [intOf]; omega
    · obtain rfl : k = n := by omega
      have M0 : Hid (MatO w wr k A' c' gs (arcR (ars.take 0))) := Lib.hid (by rw [List.take_zero, arcR_nil]; exact mo)
      have hcm : c' ≤ maxLen := by have h := mo.own; rcases h.1.2 with ⟨h1, _⟩ | ⟨g, cap, cur, h1, _, _, _, hm, _⟩ <;> (injection h1 with _ _ h2; subst h2; first | exact hm | simp [maxLen])
      have HG := Lib.hid hgl
      clear mo HM hgl
      go_wp2_with fail
      go_loopw [7] (fun i wr => ∃ q : Nat, q ≤ ars.length ∧ i = .int .i64 q ∧ Hid (MatO w wr k A' c' gs (arcR (ars.take q)))) (fun i _ => ars.length - (intOf i).toNat)
      case atStart => exact ⟨0, Nat.zero_le _, rfl, M0⟩
      case round =>
        obtain ⟨q, hq, rfl, HR⟩ := hrel
        by_cases hlt2 : q < ars.length
        · obtain ⟨b, off, rfl, d0, d1⟩ := rd_arc (RD.out.below HR.out.own.2) hlt2
          have hao := List.all_eq_true.1 OK.out ars[q] (List.getElem_mem hlt2)
          unfold arcOk at hao
          rw [Bool.and_eq_true] at hao
          have a1 := inB_le hao.1
          have a2 := inB_le hao.2
          obtain ⟨f, hf⟩ : ∃ f : Nat, ars[q].1 = (f : Int) := ⟨ars[q].1.toNat, by omega⟩
          obtain ⟨t, ht⟩ : ∃ t : Nat, ars[q].2 = (t : Int) := ⟨ars[q].2.toNat, by omega⟩
          have HN := Lib.hid (arc_set hlt2 hf ht)
          rw [hf] at a1 d0
          rw [ht] at a2 d1
          have hfn : f < gs.length := by have := HG.out; omega
          have htn : t < k := by omega
          have h0q : (0 : Int) ≤ (q : Int) := by omega
          have h1q : (q : Int) < (ars.length : Int) := by omega
          have h0f : (0 : Int) ≤ (f : Int) := by omega
          have h1f : (f : Int) < (k : Int) := by omega
          have h0t : (0 : Int) ≤ (t : Int) := by omega
          have h1t : (t : Int) < (k : Int) := by omega
          obtain ⟨b2, rfl, hrow⟩ := HR.out.rd hfn
          have hcell := HR.out.cell hfn htn
          have hfree := HR.out.free hfn t
          have RN : Hid (MatO w ((wr.setCell ⟨gs[f], t, none⟩ (.bool true)).drew) k (some ⟨b2, 0, none⟩) c' gs (arcR (ars.take (q + 1)))) := Lib.hid (by rw [← HN.out]; exact (HR.out.set hfn).drew)
          clear hao hf ht
          go_wp2_with fail
          go_region
          clear d0 d1 hrow hcell hfree
          go_wp2_with fail
          go_roundw
          case rel => exact ⟨q + 1, by omega, by go_num, RN⟩
          case measure => simp [intOf]; omega
        · have W0 : Hid (MatO w wr k A' c' gs (warsh (arcR ars) 0)) := Lib.hid (by have := HR.out; rwa [List.take_of_length_le (by omega)] at this)
          clear HR
          generalize hRR : arcR ars = R at *
          have HRR := Lib.hid hRR
          clear hRR
          go_wp2_with fail
          go_loopw [8] (fun i wr => ∃ m : Nat, m ≤ k ∧ i = .int .i64 m ∧ Hid (MatO w wr k A' c' gs (warsh R m))) (fun i _ => k - (intOf i).toNat)
          case atStart => exact ⟨0, Nat.zero_le _, rfl, W0⟩
          case round =>
            obtain ⟨m, hm, rfl, HM⟩ := hrel
            by_cases hmk : m < k
            · have h0m : (0 : Int) ≤ (m : Int) := by omega
              have h1m : (m : Int) < (k : Int) := by omega
              have hml : m < gs.length := by have := HG.out; omega
              have WS : Hid (warsh R (m + 1) = stepR (warsh R m) m) := Lib.hid rfl
              generalize warsh R m = W at *
              have MZ : Hid (MatO w wr k A' c' gs (mixR W m 0)) := Lib.hid (by rw [mixR_zero]; exact HM.out)
              clear HM
              go_wp2_with fail
              go_loopw [9] (fun i wr => ∃ q : Nat, q ≤ k ∧ i = .int .i64 q ∧ Hid (MatO w wr k A' c' gs (mixR W m q))) (fun i _ => k - (intOf i).toNat)
              case atStart => exact ⟨0, Nat.zero_le _, rfl, MZ⟩
              case round =>
                obtain ⟨q, hq, rfl, HQ⟩ := hrel
                by_cases hqk : q < k
                · have h0q : (0 : Int) ≤ (q : Int) := by omega
                  have h1q : (q : Int) < (k : Int) := by omega
                  have hql : q < gs.length := by have := HG.out; omega
                  have QZ : Hid (MatO w wr k A' c' gs (cellR W m q 0)) := Lib.hid (by rw [cellR_zero]; exact HQ.out)
                  obtain ⟨b2, rfl, _⟩ := HQ.out.rd hql
                  clear HQ
                  go_wp2_with fail
                  go_loopw [10] (fun i wr => ∃ j : Nat, j ≤ k ∧ i = .int .i64 j ∧ Hid (MatO w wr k (some ⟨b2, 0, none⟩) c' gs (cellR W m q j))) (fun i _ => k - (intOf i).toNat)
                  case atStart => exact ⟨0, Nat.zero_le _, rfl, QZ⟩
                  case round =>
                    obtain ⟨j, hj, rfl, HJ⟩ := hrel
                    by_cases hjk : j < k
                    · have h0j : (0 : Int) ≤ (j : Int) := by omega
                      have h1j : (j : Int) < (k : Int) := by omega
                      obtain ⟨b3, eb, rowQ⟩ := HJ.out.rd hql
                      obtain ⟨b4, eb2, rowM⟩ := HJ.out.rd hml
                      injection eb with eb
                      injection eb with eb
                      injection eb2 with eb2
                      injection eb2 with eb2
                      subst eb; subst eb2
                      have cQM := HJ.out.cell hql hmk
                      have cMJ := HJ.out.cell hml hjk
                      have cQJ := HJ.out.cell hql hjk
                      have fQJ := HJ.out.free hql j
                      rw [cellR_col] at cQM
                      rw [cellR_row] at cMJ
                      cases h1 : W q m with
                      | false =>
                        have RN : Hid (MatO w wr k (some ⟨b2, 0, none⟩) c' gs (mixR W m (q + 1))) := Lib.hid (by rw [← cellR_exit h1]; exact HJ.out)
                        rw [h1] at cQM
                        clear h1 cMJ cQJ fQJ
                        go_wp2_with fail
                        go_roundw
                        case rel => exact ⟨q + 1, by omega, by go_num, RN⟩
                        case measure => simp [intOf]; omega
                      | true =>
                        rw [h1] at cQM
                        cases h2 : W m j with
                        | false =>
                          have RN : Hid (MatO w wr k (some ⟨b2, 0, none⟩) c' gs (cellR W m q (j + 1))) := Lib.hid (by rw [← cellR_skip h2]; exact HJ.out)
                          rw [h2] at cMJ
                          clear h1 h2 cQJ fQJ
                          go_wp2_with fail
                          go_roundw
                          case rel => exact ⟨j + 1, by omega, by go_num, RN⟩
                          case measure => simp [intOf]; omega
                        | true =>
                          have RN : Hid (MatO w (wr.setCell ⟨gs[q], j, none⟩ (.bool true)) k (some ⟨b2, 0, none⟩) c' gs (cellR W m q (j + 1))) := Lib.hid (by rw [← cellR_set h1 h2]; exact HJ.out.set hql)
                          rw [h2] at cMJ
                          clear h1 h2
                          go_wp2_with fail
                          go_roundw
                          case rel => exact ⟨j + 1, by omega, by go_num, RN⟩
                          case measure => simp [intOf]; omega
                    · have RN : Hid (MatO w wr k (some ⟨b2, 0, none⟩) c' gs (mixR W m (q + 1))) := Lib.hid (HJ.out.congr fun a b ha hb => cellR_all (by omega) hb a)
                      clear HJ
                      go_wp2_with fail
                      go_roundw
                      case rel => exact ⟨q + 1, by omega, by go_num, RN⟩
                      case measure => simp [intOf]; omega
                · have RN : Hid (MatO w wr k A' c' gs (warsh R (m + 1))) := Lib.hid (HQ.out.congr fun a b ha hb => by
                    rw [WS.out]
                    exact mixR_all (n := q) (by have := HG.out; omega) b)
                  clear HQ
                  go_wp2_with fail
                  go_roundw
                  case rel => exact ⟨m + 1, by omega, by go_num, RN⟩
                  case measure => simp [intOf]; omega
            · obtain rfl : m = k := by omega
              go_wp2_with fail
              go_ret
              exact ⟨_, _, gs, rfl, HG.out, hcm, by rw [HRR.out]; exact HM.out⟩
end Go.Proofs.Ytfnjllaaadhbbaa
