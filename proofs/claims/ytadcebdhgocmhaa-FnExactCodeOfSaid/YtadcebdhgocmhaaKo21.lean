/- Lemmas for the row. -/
import Derived.Test.YtadcebdhgocmhaaKo5
import Derived.Test.YtadcebdhgocmhaaKo9
import Derived.Test.YtadcebdhgocmhaaKo2
import Derived.Deep.QuietTactic
import Derived.BigQuiet
import Derived.Test.YtadcebdhgocmhaaKo20
namespace Go.Proofs.Ytadcebdhgocmhaa
open Go.RowKit
set_option linter.unusedVariables false
def hasS (ss : List ByteArray) (x : ByteArray) : Bool := ss.any fun s => decide (s = x)
theorem has_iff {ss : List ByteArray} {x : ByteArray} : hasS ss x = true ↔ x ∈ ss := by
  unfold hasS
  rw [List.any_eq_true]
  constructor
  · rintro ⟨y, hy, e⟩; rw [← of_decide_eq_true e]; exact hy
  · intro h; exact ⟨x, h, decide_eq_true rfl⟩
theorem placeS_has (ss : List ByteArray) (x : ByteArray) : decide (0 ≤ placeS ss x) = hasS ss x := by
  rw [Bool.eq_iff_iff, has_iff, decide_eq_true_eq]
  unfold placeS
  cases h : ss.findIdx? (fun s => decide (s = x)) with
  | none =>
    rw [List.findIdx?_eq_none_iff] at h
    constructor
    · intro h'; simp at h'
    · intro hx; simpa using h x hx
  | some k =>
    rw [List.findIdx?_eq_some_iff_getElem] at h
    obtain ⟨hk, he, _⟩ := h
    constructor
    · intro _; rw [← of_decide_eq_true he]; exact List.getElem_mem hk
    · intro _; simp
def addOnceP (ss : List ByteArray) (x : ByteArray) : List ByteArray := if hasS ss x = true then ss else ss ++ [x]
theorem addOnce_yes {ss : List ByteArray} {x : ByteArray} (h : hasS ss x = true) : addOnceP ss x = ss := by simp [addOnceP, h]
theorem addOnce_no {ss : List ByteArray} {x : ByteArray} (h : hasS ss x = false) : addOnceP ss x = ss ++ [x] := by simp [addOnceP, h]
theorem addOnce_len (ss : List ByteArray) (x : ByteArray) : (addOnceP ss x).length ≤ ss.length + 1 := by unfold addOnceP; split <;> simp
theorem hasS_at {ss : List ByteArray} {x : ByteArray} {k : Nat} (hk : k < ss.length) (e : ss[k] = x) : hasS ss x = true := has_iff.2 (by rw [← e]; exact List.getElem_mem hk)
theorem hasS_no {ss : List ByteArray} {x : ByteArray} (h : ∀ s ∈ ss, s ≠ x) : hasS ss x = false := by
  cases e : hasS ss x with
  | false => rfl
  | true => exact absurd rfl (h x (has_iff.1 e))
theorem map_snoc (ss : List ByteArray) (x : ByteArray) : ss.map Value.string ++ [.string x] = (ss ++ [x]).map Value.string := by simp
mutual
def readsT (acc : List ByteArray) : Tm → List ByteArray
  | .mk k _ s kids => if k = 2 then addOnceP acc s else readsTs acc kids
def readsTs (acc : List ByteArray) : List Tm → List ByteArray
  | [] => acc
  | t :: r => readsTs (readsT acc t) r
end
theorem readsT_var (acc : List ByteArray) (n : Int) (s : ByteArray) (kids : List Tm) : readsT acc (.mk 2 n s kids) = addOnceP acc s := by rw [readsT, if_pos rfl]
theorem readsT_other (acc : List ByteArray) {k : Int} (h : k ≠ 2) (n : Int) (s : ByteArray) (kids : List Tm) : readsT acc (.mk k n s kids) = readsTs acc kids := by rw [readsT, if_neg h]
theorem readsTs_append (acc : List ByteArray) (l r : List Tm) : readsTs acc (l ++ r) = readsTs (readsTs acc l) r := by
  induction l generalizing acc with
  | nil => simp [readsTs]
  | cons t l ih => rw [List.cons_append, readsTs, readsTs, ih]
theorem readsTs_take (acc : List ByteArray) (l : List Tm) (j : Nat) (h : j < l.length) : readsTs acc (l.take (j + 1)) = readsT (readsTs acc (l.take j)) l[j] := by
  have e : l.take (j + 1) = l.take j ++ [l[j]] := List.take_succ_eq_append_getElem h
  rw [e, readsTs_append]; simp [readsTs]
mutual
theorem readsT_len (acc : List ByteArray) : (t : Tm) → (readsT acc t).length ≤ acc.length + nodes t
  | .mk k n s kids => by
    rw [readsT, nodes]
    split
    · have := addOnce_len acc s; omega
    · have := readsTs_len acc kids; omega
theorem readsTs_len (acc : List ByteArray) : (l : List Tm) → (readsTs acc l).length ≤ acc.length + nodess l
  | [] => by rw [readsTs, nodess]; omega
  | t :: r => by
    rw [readsTs, nodess]
    have := readsT_len acc t
    have := readsTs_len (readsT acc t) r
    omega
end
theorem nodess_split (l : List Tm) (j : Nat) (h : j < l.length) : nodess (l.take j) + nodes l[j] ≤ nodess l := by
  have e : nodess l = nodess (l.take j) + nodess (l.drop j) := by
    have hh : ∀ (a b : List Tm), nodess (a ++ b) = nodess a + nodess b := by
      intro a b
      induction a with
      | nil => simp [nodess]
      | cons y t ih => rw [List.cons_append, nodess, nodess, ih]; omega
    rw [← hh, List.take_append_drop]
  rw [List.drop_eq_getElem_cons h, nodess] at e
  omega
theorem OwnStrs.alloc {w0 w : World} {v : Value} {ss : List ByteArray} (h : OwnStrs w0 w v ss) (o : Obj) : OwnStrs w0 (w.alloc o) v ss := Own.alloc h o
theorem OwnStrs.cons {w0 w : World} {v : Value} {ss : List ByteArray} (h : OwnStrs w0 w v ss) : ∃ A c, v = .slice A ss.length c ∧ ss.length ≤ c := Own.slice h
theorem slices_Contains (v : Value) (ss : List ByteArray) (x : ByteArray) (w : World) (h : IsStrs w v ss) :
    Calls Try.prog 30 #[v, .string x] w fun e w' => e = .returned (.bool (hasS ss x)) ∧ w = w' := by
  have P := Lib.hid (placeS_has ss x)
  have H := Lib.hid h
  clear h
  go_enter Try.func30, Try.ntmps30
  go_wp2_with fail
  refine (slices_Index v ss x _ H.out).mono ?_
  rintro e w1 ⟨rfl, rfl⟩
  go_wp2_with fail
  go_ret
  exact ⟨ret_bool P.out, rfl⟩
theorem impl_addOnce (w0 w : World) (v : Value) (ss : List ByteArray) (x : ByteArray) (own : OwnStrs w0 w v ss) (hb : ss.length ≤ 10000000) :
    Calls Try.prog 37 #[v, .string x] w fun e w' => ∃ v', e = .returned v' ∧ OwnStrs w0 w' v' (addOnceP ss x) ∧ KeepT 9 w w' := by
  have OW := Lib.hid own
  obtain ⟨A, c, rfl, hl⟩ := own.slice
  clear own
  cases h : hasS ss x with
  | true =>
    have HA := Lib.hid (addOnce_yes h)
    go_enter Try.func37, Try.ntmps37
    go_wp2_with fail
    refine (slices_Contains _ ss x _ OW.out.isStrs).mono ?_
    rintro e w1 ⟨rfl, rfl⟩
    rw [h]
    go_wp2_with fail
    go_ret
    exact ⟨_, rfl, by rw [HA.out]; exact OW.out, KeepT.refl' _ _⟩
  | false =>
    have HA := Lib.hid (addOnce_no h)
    go_enter Try.func37, Try.ntmps37
    go_wp2_with fail
    refine (slices_Contains _ ss x _ OW.out.isStrs).mono ?_
    rintro e w1 ⟨rfl, rfl⟩
    rw [h]
    go_wp2_with (at_builtin; refine wpList_app_keep rfl _ _ _ rfl strT OW.out _ 1 rfl rfl rfl (by simp [Value.oneCell']) (by simp only [maxLen]; omega) (by omega) ?_; intro v3 w3 own3 kp3)
    go_ret
    refine ⟨_, rfl, ?_, kp3⟩
    rw [HA.out]
    unfold OwnStrs
    rw [List.length_append, ← map_snoc]
    exact own3
abbrev AdC (t : Tm) : Prop := ∀ (k n : Int) (s : ByteArray) (A : Option Addr) (m c : Nat) (w0 w : World) (v : Value) (acc : List ByteArray), TmIs AnyB w0 [.int .i64 k, .int .i64 n, .string s, .slice A m c] t → OwnStrs w0 w v acc → acc.length + nodes t ≤ 10000000 →
  Calls Try.prog 38 #[v, .agg #[.int .i64 k, .int .i64 n, .string s, .slice A m c]] w fun e w' => ∃ v', e = .returned v' ∧ OwnStrs w0 w' v' (readsT acc t) ∧ KeepT 9 w w'
set_option maxHeartbeats 800000 in
theorem impl_addReads (t : Tm) : AdC t := by
  induction hN : nodes t using Nat.strongRecOn generalizing t with
  | ind N ih =>
    intro k n s A m c w0 w v acc ht own hb
    obtain ⟨kids, rfl, rfl, hl, hc, _, _, _, row⟩ := ht.inv
    have IH : Hid (∀ x ∈ kids, AdC x) := Lib.hid fun x hx => ih (nodes x) (by rw [← hN]; exact kid_lt hx) x rfl
    have RW := Lib.hid row
    have OW := Lib.hid own
    obtain ⟨A0, c0, rfl, hl0⟩ := own.slice
    rw [nodes] at hb
    clear ih hN ht row own
    by_cases e : k = 2
    · subst e
      rw [readsT_var]
      go_enter Try.func38, Try.ntmps38
      go_wp2_with fail
      refine (impl_addOnce w0 _ _ acc s (OW.out.alloc _) (by omega)).mono ?_
      rintro e w1 ⟨v1, rfl, own1, kp1⟩
      have O1 := Lib.hid own1
      have K1 : Hid (KeepT 9 w w1) := Lib.hid (KeepT.trans' (KeepT.of_below' (by repeat' first|exact .refl _ _|exact Nat.le_refl _|refine .alloc ?_ ?_ _|refine .setCell ?_ ?_ _|refine .drew ?_|refine below_drewN ?_ _|assumption|(simp;done)|(simp;omega))) kp1)
      obtain ⟨A1, c1, rfl, _⟩ := own1.slice
      clear own1 kp1
      go_wp2_with fail
      go_ret
      exact ⟨_, rfl, O1.out, K1.out⟩
    · rw [readsT_other acc e]
      have e' : (k == 2) = false := beq_eq_false_iff_ne.2 e
      unfold maxLen at hc
      clear e
      go_enter Try.func38, Try.ntmps38
      go_wp2_with fail
      go_loopw [0, 17] (fun lv i wr => ∃ j : Nat, j ≤ kids.length ∧ i = .int .i64 j ∧ ∃ A' c', lv = .slice A' (readsTs acc (kids.take j)).length c' ∧ Hid (OwnStrs w0 wr (.slice A' (readsTs acc (kids.take j)).length c') (readsTs acc (kids.take j)) ∧ KeepT 9 w wr)) (fun _ i _ => kids.length - (intOf i).toNat)
      case atStart => exact ⟨0, Nat.zero_le _, rfl, A0, c0, rfl, Lib.hid ⟨OW.out.alloc _, KeepT.of_below' (by repeat' first|exact .refl _ _|exact Nat.le_refl _|refine .alloc ?_ ?_ _|refine .setCell ?_ ?_ _|refine .drew ?_|refine below_drewN ?_ _|assumption|(simp;done)|(simp;omega))⟩⟩
      case round =>
        obtain ⟨j, hj, rfl, A', c', rfl, HO⟩ := hrel
        by_cases hlt : j < kids.length
        · obtain ⟨b, off, k1, n1, s1, A1, m1, c1, rfl, _, d0, d1, d2, d3, ht1⟩ := rd_term RW.out hlt
          replace d0 := cell_keep HO.out.1.2 d0
          replace d1 := cell_keep HO.out.1.2 d1
          replace d2 := cell_keep HO.out.1.2 d2
          replace d3 := cell_keep HO.out.1.2 d3
          have T1 := Lib.hid ht1
          have hlb := cell_lt d0
          have hnl := nodess_split kids j hlt
          have hrl := readsTs_len acc (kids.take j)
          have HT := Lib.hid (readsTs_take acc kids j hlt)
          have h0k : (0 : Int) ≤ (j : Int) := by omega
          clear ht1
          go_wp2_with fail
          refine (IH.out _ (List.getElem_mem hlt) k1 n1 s1 A1 m1 c1 w0 _ _ _ T1.out (HO.out.1.alloc _) (by omega)).mono ?_
          rintro e w1 ⟨v1, rfl, own1, kp1⟩
          rw [← HT.out] at own1
          have O1 := Lib.hid (And.intro own1 (KeepT.trans' HO.out.2 (KeepT.trans' (KeepT.of_below' (by repeat' first|exact .refl _ _|exact Nat.le_refl _|refine .alloc ?_ ?_ _|refine .setCell ?_ ?_ _|refine .drew ?_|refine below_drewN ?_ _|assumption|(simp;done)|(simp;omega))) kp1)))
          obtain ⟨A2, c2, rfl, _⟩ := own1.slice
          clear own1 kp1
          go_wp2_with fail
          go_roundw
          case rel => exact ⟨j + 1, by omega, by go_num, A2, c2, rfl, O1⟩
          case measure => simp [intOf]; omega
        · go_wp2_with fail
          go_ret
          have := HO.out
          rw [List.take_of_length_le (by omega)] at this ⊢
          exact ⟨_, rfl, this.1, this.2⟩
abbrev RdC (t : Tm) : Prop := ∀ (k n : Int) (s : ByteArray) (A : Option Addr) (m c : Nat) (w0 w : World) (v : Value) (acc : List ByteArray), TmIs AnyB w0 [.int .i64 k, .int .i64 n, .string s, .slice A m c] t → OwnStrs w0 w v acc → acc.length + nodes t ≤ 10000000 →
  Calls Try.prog 103 #[.agg #[.int .i64 k, .int .i64 n, .string s, .slice A m c], v] w fun e w' => ∃ v', e = .returned v' ∧ OwnStrs w0 w' v' (readsT acc t) ∧ KeepT 9 w w'
set_option maxHeartbeats 800000 in
theorem spec_reads_var (n : Int) (s : ByteArray) (A : Option Addr) (m c : Nat) (w0 w : World) (v : Value) (acc : List ByteArray) (own : OwnStrs w0 w v acc) (hb : acc.length ≤ 9999999) :
    Calls Try.prog 103 #[.agg #[.int .i64 2, .int .i64 n, .string s, .slice A m c], v] w fun e w' => ∃ v', e = .returned v' ∧ OwnStrs w0 w' v' (addOnceP acc s) ∧ KeepT 9 w w' := by
  have OW := Lib.hid own
  obtain ⟨A0, c0, rfl, hl0⟩ := own.slice
  have hc0 := own_cap' own
  unfold maxLen at hc0
  clear own
  go_enter Try.func103, Try.ntmps103
  go_wp2_with fail
  go_loopw [5] (fun i wr => ∃ j : Nat, j ≤ acc.length ∧ i = .int .i64 j ∧ wr.cell? ⟨w.heap.size, 2, none⟩ = some (.string s) ∧ Hid (OwnStrs w0 wr (.slice A0 acc.length c0) acc ∧ KeepT 9 w wr) ∧ Hid (∀ x ∈ acc.take j, x ≠ s)) (fun i _ => acc.length - (intOf i).toNat)
  case atStart => exact ⟨0, Nat.zero_le _, rfl, by simp, Lib.hid ⟨OW.out.alloc _, KeepT.of_below' (by repeat' first|exact .refl _ _|exact Nat.le_refl _|refine .alloc ?_ ?_ _|refine .setCell ?_ ?_ _|refine .drew ?_|refine below_drewN ?_ _|assumption|(simp;done)|(simp;omega))⟩, Lib.hid (by simp)⟩
  case round =>
    obtain ⟨j, hj, rfl, x2, HO, HT⟩ := hrel
    by_cases hlt : j < acc.length
    · obtain ⟨b, off, rfl, hcell⟩ := rd_str (Own.rd HO.out.1) hlt
      have h0k : (0 : Int) ≤ (j : Int) := by omega
      have h1k : (j : Int) < (acc.length : Int) := by omega
      have q := str_eq acc[j] s
      by_cases e : acc[j] = s
      · have HA := Lib.hid (addOnce_yes (hasS_at hlt e))
        rw [decide_eq_true e] at q
        clear e
        go_wp2_with fail
        go_quiet (fail)
        go_wp2_with fail
        go_ret
        exact ⟨_, rfl, by rw [HA.out]; exact HO.out.1.below (Qt.of_drewN _ _).below, KeepT.trans' HO.out.2 (KeepT.of_below' (Qt.of_drewN _ _).below)⟩
      · have HE := Lib.hid e
        rw [decide_no e] at q
        clear e
        go_wp2_with fail
        go_quiet (fail)
        go_wp2_with fail
        go_roundw
        case rel => exact ⟨j + 1, by omega, by go_num, x2, Lib.hid ⟨HO.out.1.below (Qt.of_drewN _ _).below, KeepT.trans' HO.out.2 (KeepT.of_below' (Qt.of_drewN _ _).below)⟩, Lib.hid (take_all_succ HT.out hlt HE.out)⟩
        case measure => simp [intOf]; omega
    · have HA := Lib.hid (addOnce_no (hasS_no (by have := HT.out; rwa [List.take_of_length_le (by omega)] at this)))
      go_wp2_with (at_builtin; refine wpList_app_keep rfl _ _ _ rfl strT HO.out.1 _ 1 rfl rfl rfl (by simp [Value.oneCell']) (by simp only [maxLen]; omega) (by omega) ?_; intro v3 w3 own3 kp3)
      go_ret
      refine ⟨_, rfl, ?_, KeepT.trans' HO.out.2 kp3⟩
      rw [HA.out]
      unfold OwnStrs
      rw [List.length_append, ← map_snoc]
      exact own3
set_option maxHeartbeats 800000 in
theorem spec_l03Reads (t : Tm) : RdC t := by
  induction hN : nodes t using Nat.strongRecOn generalizing t with
  | ind N ih =>
    intro k n s A m c w0 w v acc ht own hb
    obtain ⟨kids, rfl, rfl, hl, hc, _, _, _, row⟩ := ht.inv
    have IH : Hid (∀ x ∈ kids, RdC x) := Lib.hid fun x hx => ih (nodes x) (by rw [← hN]; exact kid_lt hx) x rfl
    have RW := Lib.hid row
    have OW := Lib.hid own
    rw [nodes] at hb
    by_cases e : k = 2
    · subst e
      rw [readsT_var]
      exact spec_reads_var n s A _ c w0 w v acc own (by omega)
    obtain ⟨A0, c0, rfl, hl0⟩ := own.slice
    clear ih hN ht row own
    rw [readsT_other acc e]
    have e' : (k == 2) = false := beq_eq_false_iff_ne.2 e
    unfold maxLen at hc
    clear e
    go_enter Try.func103, Try.ntmps103
    go_wp2_with fail
    go_loopw [1, 6] (fun lv i wr => ∃ j : Nat, j ≤ kids.length ∧ i = .int .i64 j ∧ wr.cell? ⟨w.heap.size, 3, none⟩ = some (.slice A kids.length c) ∧ ∃ A' c', lv = .slice A' (readsTs acc (kids.take j)).length c' ∧ Hid (OwnStrs w0 wr (.slice A' (readsTs acc (kids.take j)).length c') (readsTs acc (kids.take j)) ∧ KeepT 9 w wr ∧ Sane 9 wr w.heap.size)) (fun _ i _ => kids.length - (intOf i).toNat)
    case atStart => exact ⟨0, Nat.zero_le _, rfl, by simp, A0, c0, rfl, Lib.hid ⟨OW.out.alloc _, KeepT.of_below' (by repeat' first|exact .refl _ _|exact Nat.le_refl _|refine .alloc ?_ ?_ _|refine .setCell ?_ ?_ _|refine .drew ?_|refine below_drewN ?_ _|assumption|(simp;done)|(simp;omega)), sane_new (by decide)⟩⟩
    case round =>
      obtain ⟨j, hj, rfl, x3, A', c', rfl, HO⟩ := hrel
      by_cases hlt : j < kids.length
      · obtain ⟨b, off, k1, n1, s1, A1, m1, c1, rfl, _, d0, d1, d2, d3, ht1⟩ := rd_term RW.out hlt
        replace d0 := cell_keep HO.out.1.2 d0
        replace d1 := cell_keep HO.out.1.2 d1
        replace d2 := cell_keep HO.out.1.2 d2
        replace d3 := cell_keep HO.out.1.2 d3
        have T1 := Lib.hid ht1
        have hlb := cell_lt d0
        have hnl := nodess_split kids j hlt
        have hrl := readsTs_len acc (kids.take j)
        have HT := Lib.hid (readsTs_take acc kids j hlt)
        have h0k : (0 : Int) ≤ (j : Int) := by omega
        clear ht1
        go_wp2_with fail
        refine (IH.out _ (List.getElem_mem hlt) k1 n1 s1 A1 m1 c1 w0 _ _ _ T1.out HO.out.1 (by omega)).mono ?_
        rintro e w1 ⟨v1, rfl, own1, kp1⟩
        rw [← HT.out] at own1
        have y3 := KeepT.cellT kp1 HO.out.2.2 x3
        have O1 := Lib.hid (And.intro own1 (And.intro (KeepT.trans' HO.out.2.1 kp1) (sane_keep HO.out.2.2 (cell_lt x3) kp1)))
        obtain ⟨A2, c2, rfl, _⟩ := own1.slice
        clear own1 kp1
        go_wp2_with fail
        go_roundw
        case rel => exact ⟨j + 1, by omega, by go_num, y3, A2, c2, rfl, O1⟩
        case measure => simp [intOf]; omega
      · go_wp2_with fail
        go_ret
        have := HO.out
        rw [List.take_of_length_le (by omega)] at this ⊢
        exact ⟨_, rfl, this.1, this.2.1⟩
noncomputable def decB (p : Prop) : Bool := @decide p (Classical.propDecidable _)
theorem decB_yes {p : Prop} (h : p) : decB p = true := by unfold decB; exact @decide_eq_true _ (Classical.propDecidable _) h
theorem decB_no {p : Prop} (h : ¬ p) : decB p = false := by unfold decB; exact @decide_eq_false _ (Classical.propDecidable _) h
theorem decB_true {p : Prop} (h : decB p = true) : p := Classical.byContradiction fun hn => by rw [decB_no hn] at h; cases h
theorem decB_false {p : Prop} (h : decB p = false) : ¬ p := fun e => by rw [decB_yes e] at h; cases h
def BoxB (w : World) (g : Nat) (cs : List Value) : Prop := ∀ j u, cs[j]? = some u → w.cell? ⟨g, j, none⟩ = some u
theorem BoxB.below {w w' : World} {g : Nat} {cs : List Value} (h : BoxB w g cs) (hb : Below w.heap.size w w') : BoxB w' g cs := fun j u hu => cell_keep hb (h j u hu)
theorem BoxB.lit {w : World} {g : Nat} {cs : Array Value} {e : TypeId} (h : g = w.heap.size) : BoxB (w.alloc (.cells cs e)) g cs.toList := by
  subst h
  intro j u hu
  rw [World.cell?_alloc_new]
  simpa using hu
theorem BoxB.keepS {w w' : World} {g : Nat} {cs : List Value} {S : Nat → Prop} (h : BoxB w g cs) (hk : Keep S w w') (hS : S g) : BoxB w' g cs := fun j u hu => hk.cellEq hS (h j u hu)
set_option maxHeartbeats 800000 in
theorem laws_szProg (p : Pg) (x : V3) (w : World) (left : Int) (hp : PgIs w x p) (h0 : 0 ≤ left) (h1 : left ≤ 1048576) :
    Calls Try.prog 15 #[x.val p, .int .i64 left] w fun e w' => e = .returned (.int .i64 (cut0 (left - (totPg p : Int)))) ∧ Below w.heap.size w w' := by
  obtain ⟨gs, ls, ps⟩ := p
  obtain ⟨gA, gc, lA, lc, pA, pc⟩ := x
  have HP := Lib.hid hp
  have hpc := hp.p2
  have hpl := hp.p1
  simp only at hpc hpl
  have ht : (totPg ⟨gs, ls, ps⟩ : Int) = (totS gs : Int) + (totS ls : Int) + (totPrs ps : Int) := by simp [totPg]
  unfold V3.val
  simp only
  clear hp
  by_cases g1 : left - (totS gs : Int) < 0
  · have C := Lib.hid (cut0_neg (n := left - (totPg ⟨gs, ls, ps⟩ : Int)) (by omega))
    have C1 := Lib.hid (cut0_neg g1)
    clear ht
    go_enter Try.func15, Try.ntmps15
    go_wp2_with fail
    refine (laws_szStringS _ gs _ _ (HP.out.gs.below (by repeat' first|exact .refl _ _|exact Nat.le_refl _|refine .alloc ?_ ?_ _|refine .setCell ?_ ?_ _|refine .drew ?_|refine below_drewN ?_ _|assumption|(simp;done)|(simp;omega))) HP.out.g4 h0 h1).mono ?_
    rintro e w1 ⟨rfl, rfl⟩
    rw [C1.out]
    go_wp2_with fail
    go_ret
    exact ⟨ret_int C.out.symm, (by repeat' first|exact .refl _ _|exact Nat.le_refl _|refine .alloc ?_ ?_ _|refine .setCell ?_ ?_ _|refine .drew ?_|refine below_drewN ?_ _|assumption|(simp;done)|(simp;omega))⟩
  have C1 := Lib.hid (cut0_pos (n := left - (totS gs : Int)) (by omega))
  have g1' : 0 ≤ left - (totS gs : Int) := by omega
  by_cases g2 : left - (totS gs : Int) - (totS ls : Int) < 0
  · have C := Lib.hid (cut0_neg (n := left - (totPg ⟨gs, ls, ps⟩ : Int)) (by omega))
    have C2 := Lib.hid (cut0_neg g2)
    clear ht g1
    go_enter Try.func15, Try.ntmps15
    go_wp2_with fail
    refine (laws_szStringS _ gs _ _ (HP.out.gs.below (by repeat' first|exact .refl _ _|exact Nat.le_refl _|refine .alloc ?_ ?_ _|refine .setCell ?_ ?_ _|refine .drew ?_|refine below_drewN ?_ _|assumption|(simp;done)|(simp;omega))) HP.out.g4 h0 h1).mono ?_
    rintro e w1 ⟨rfl, rfl⟩
    rw [C1.out]
    go_wp2_with fail
    refine (laws_szStringS _ ls _ _ (HP.out.ls.below (by repeat' first|exact .refl _ _|exact Nat.le_refl _|refine .alloc ?_ ?_ _|refine .setCell ?_ ?_ _|refine .drew ?_|refine below_drewN ?_ _|assumption|(simp;done)|(simp;omega))) HP.out.l4 (by omega) (by omega)).mono ?_
    rintro e w1 ⟨rfl, rfl⟩
    rw [C2.out]
    go_wp2_with fail
    go_ret
    exact ⟨ret_int C.out.symm, (by repeat' first|exact .refl _ _|exact Nat.le_refl _|refine .alloc ?_ ?_ _|refine .setCell ?_ ?_ _|refine .drew ?_|refine below_drewN ?_ _|assumption|(simp;done)|(simp;omega))⟩
  have C2 := Lib.hid (cut0_pos (n := left - (totS gs : Int) - (totS ls : Int)) (by omega))
  have g2' : 0 ≤ left - (totS gs : Int) - (totS ls : Int) := by omega
  have HC : Hid (cut0 (left - (totS gs : Int) - (totS ls : Int) - (totPrs ps : Int)) = cut0 (left - (totPg ⟨gs, ls, ps⟩ : Int))) := Lib.hid (by congr 1; omega)
  have hmm : cut0 (left - (totS gs : Int) - (totS ls : Int) - (totPrs ps : Int)) < 0 → cut0 (left - (totS gs : Int) - (totS ls : Int) - (totPrs ps : Int)) = -1 := fun h => by
    by_cases e : left - (totS gs : Int) - (totS ls : Int) - (totPrs ps : Int) < 0
    · exact cut0_neg e
    · rw [cut0_pos (by omega)] at h ⊢; omega
  have HM := Lib.hid hmm
  clear ht g1 g2 hmm
  go_enter Try.func15, Try.ntmps15
  go_wp2_with fail
  refine (laws_szStringS _ gs _ _ (HP.out.gs.below (by repeat' first|exact .refl _ _|exact Nat.le_refl _|refine .alloc ?_ ?_ _|refine .setCell ?_ ?_ _|refine .drew ?_|refine below_drewN ?_ _|assumption|(simp;done)|(simp;omega))) HP.out.g4 h0 h1).mono ?_
  rintro e w1 ⟨rfl, rfl⟩
  rw [C1.out]
  go_wp2_with fail
  refine (laws_szStringS _ ls _ _ (HP.out.ls.below (by repeat' first|exact .refl _ _|exact Nat.le_refl _|refine .alloc ?_ ?_ _|refine .setCell ?_ ?_ _|refine .drew ?_|refine below_drewN ?_ _|assumption|(simp;done)|(simp;omega))) HP.out.l4 (by omega) (by omega)).mono ?_
  rintro e w1 ⟨rfl, rfl⟩
  rw [C2.out]
  go_wp2_with fail
  refine (laws_szProcS ps pA pc _ _ (HP.out.p3.belowA (by repeat' first|exact .refl _ _|exact Nat.le_refl _|refine .alloc ?_ ?_ _|refine .setCell ?_ ?_ _|refine .drew ?_|refine below_drewN ?_ _|assumption|(simp;done)|(simp;omega))) hpl hpc (by omega) (by omega)).mono ?_
  rintro e w1 ⟨rfl, b1⟩
  have B1 : Hid (Below w.heap.size w w1) := Lib.hid (Below.trans (by repeat' first|exact .refl _ _|exact Nat.le_refl _|refine .alloc ?_ ?_ _|refine .setCell ?_ ?_ _|refine .drew ?_|refine below_drewN ?_ _|assumption|(simp;done)|(simp;omega)) (b1.mono (by simp)))
  clear b1
  by_cases hn : cut0 (left - (totS gs : Int) - (totS ls : Int) - (totPrs ps : Int)) < 0
  · rw [HM.out hn]
    have HE := Lib.hid (HC.out.symm.trans (HM.out hn))
    clear hn
    go_wp2_with fail
    go_ret
    exact ⟨ret_int HE.out.symm, B1.out⟩
  · generalize hz : cut0 (left - (totS gs : Int) - (totS ls : Int) - (totPrs ps : Int)) = z at *
    have HZ := Lib.hid hz
    clear hz
    go_wp2_with fail
    go_ret
    exact ⟨ret_int HC.out, B1.out⟩
set_option maxHeartbeats 800000 in
theorem laws_eqProc (p q : Pr) (x y : V2) (w : World) (hp : PrIs w x p) (hq : PrIs w y q) :
    Calls Try.prog 88 #[.agg #[.string x.s, .slice x.A x.m x.c], .agg #[.string y.s, .slice y.A y.m y.c]] w fun e w' => e = .returned (.bool (decB (p = q))) ∧ Below w.heap.size w w' := by
  obtain ⟨nm, body⟩ := p
  obtain ⟨nm', body'⟩ := q
  obtain ⟨s, A, m, c⟩ := x
  obtain ⟨s', A', m', c'⟩ := y
  obtain ⟨e1, e2, hs, hl, hc, row⟩ := hp
  obtain ⟨e1', e2', hs', hl', hc', row'⟩ := hq
  simp only at e1 e2 hs hl hc row e1' e2' hs' hl' hc' row'
  simp only
  subst e1 e2 e1' e2'
  have RW := Lib.hid row
  have RW' := Lib.hid row'
  have q := str_eq nm nm'
  clear row row' hs hs'
  by_cases c1 : nm = nm'
  case neg =>
    rw [decide_no c1] at q
    have C := Lib.hid c1
    clear c1
    go_enter Try.func88, Try.ntmps88
    go_wp2_with fail
    go_ret
    exact ⟨ret_bool (decB_no (fun e => C.out (by injection e))).symm, (by repeat' first|exact .refl _ _|exact Nat.le_refl _|refine .alloc ?_ ?_ _|refine .setCell ?_ ?_ _|refine .drew ?_|refine below_drewN ?_ _|assumption|(simp;done)|(simp;omega))⟩
  rw [decide_eq_true c1] at q
  have C := Lib.hid c1
  clear c1
  go_enter Try.func88, Try.ntmps88
  go_wp2_with fail
  refine (laws_eqStmtS body body' (fun g _ => laws_eqStmt g) A A' c c' _ (RW.out.belowA (by repeat' first|exact .refl _ _|exact Nat.le_refl _|refine .alloc ?_ ?_ _|refine .setCell ?_ ?_ _|refine .drew ?_|refine below_drewN ?_ _|assumption|(simp;done)|(simp;omega))) (RW'.out.belowA (by repeat' first|exact .refl _ _|exact Nat.le_refl _|refine .alloc ?_ ?_ _|refine .setCell ?_ ?_ _|refine .drew ?_|refine below_drewN ?_ _|assumption|(simp;done)|(simp;omega))) hl hl' hc hc').mono ?_
  rintro e w1 ⟨rfl, b1⟩
  have B1 : Hid (Below w.heap.size w w1) := Lib.hid (Below.trans (by repeat' first|exact .refl _ _|exact Nat.le_refl _|refine .alloc ?_ ?_ _|refine .setCell ?_ ?_ _|refine .drew ?_|refine below_drewN ?_ _|assumption|(simp;done)|(simp;omega)) (b1.mono (by simp; omega)))
  clear b1
  by_cases c2 : body = body'
  · rw [samesG_yes c2]
    have C2 := Lib.hid c2
    clear c2
    go_wp2_with fail
    go_ret
    exact ⟨ret_bool (decB_yes (by rw [C.out, C2.out])).symm, B1.out⟩
  · rw [samesG_no c2]
    have C2 := Lib.hid c2
    clear c2
    go_wp2_with fail
    go_ret
    exact ⟨ret_bool (decB_no (fun e => C2.out (by injection e))).symm, B1.out⟩
set_option maxHeartbeats 800000 in
theorem laws_eqProcS (ss tt : List Pr) (A A' : Option Addr) (c c' : Nat) (w : World) (row : PrRow w A ss) (row' : PrRow w A' tt) (hl : ss.length ≤ c) (hl' : tt.length ≤ c') (hc : c ≤ maxLen) (hc' : c' ≤ maxLen) :
    Calls Try.prog 54 #[.slice A ss.length c, .slice A' tt.length c'] w fun e w' => e = .returned (.bool (decB (ss = tt))) ∧ Below w.heap.size w w' := by
  unfold maxLen at hc hc'
  have RW := Lib.hid row
  have RW' := Lib.hid row'
  clear row row'
  by_cases g0 : ss.length = tt.length
  case neg =>
    have g1 : ((ss.length : Int) != (tt.length : Int)) = true := by simp; omega
    have G := Lib.hid g0
    clear g0
    go_enter Try.func54, Try.ntmps54
    go_wp2_with fail
    go_ret
    exact ⟨ret_bool (decB_no (fun e => G.out (by rw [e]))).symm, Below.refl _ _⟩
  have g1 : ((ss.length : Int) != (tt.length : Int)) = false := by simp [g0]
  have G := Lib.hid g0
  clear g0
  go_enter Try.func54, Try.ntmps54
  go_wp2_with fail
  go_loopw [5] (fun i wr => ∃ k : Nat, k ≤ ss.length ∧ i = .int .i64 k ∧ Below w.heap.size w wr ∧ Hid (ss.take k = tt.take k)) (fun i _ => ss.length - (intOf i).toNat)
  case atStart => exact ⟨0, Nat.zero_le _, rfl, Below.refl _ _, Lib.hid rfl⟩
  case round =>
    obtain ⟨j, hj, rfl, hb, HT⟩ := hrel
    have HB := Lib.hid hb
    clear hb
    by_cases hlt : j < ss.length
    case neg =>
      go_wp2_with fail
      go_ret
      have e : ss = tt := by
        have := HT.out
        rwa [List.take_of_length_le (by omega), List.take_of_length_le (by rw [← G.out]; omega)] at this
      exact ⟨ret_bool (decB_yes e).symm, HB.out⟩
    have hlt' : j < tt.length := by rw [← G.out]; exact hlt
    obtain ⟨b, off, x, rfl, d0, d1, hp⟩ := rd_proc (RW.out.belowA HB.out) hlt
    obtain ⟨b', off', y, rfl, e0, e1, hq⟩ := rd_proc (RW'.out.belowA HB.out) hlt'
    have T1 := Lib.hid hp
    have T2 := Lib.hid hq
    have h0k : (0 : Int) ≤ (j : Int) := by omega
    have h1k : (j : Int) < (ss.length : Int) := by omega
    have h2k : (j : Int) < (tt.length : Int) := by omega
    clear hp hq
    by_cases e : decB (ss[j] = tt[j]) = true
    · have E := Lib.hid (decB_true e)
      go_wp2_with fail
      refine wp_region_later (by kernel_rfl) (by kernel_rfl) ?_
      intro gw hgw hcw
      have HG := Lib.hid hgw
      have HC := Lib.hid hcw
      clear hgw hcw
      have d0' : ∀ n, (gw n).cell? ⟨b, off + j * 2, none⟩ = some (.string x.s) := fun n => cell_keep (HG.out n) d0
      have d1' : ∀ n, (gw n).cell? ⟨b, off + j * 2 + 1, none⟩ = some (.slice x.A x.m x.c) := fun n => cell_keep (HG.out n) d1
      have e0' : ∀ n, (gw n).cell? ⟨b', off' + j * 2, none⟩ = some (.string y.s) := fun n => cell_keep (HG.out n) e0
      have e1' : ∀ n, (gw n).cell? ⟨b', off' + j * 2 + 1, none⟩ = some (.slice y.A y.m y.c) := fun n => cell_keep (HG.out n) e1
      clear d0 d1 e0 e1
      repeat (go_big_quiet_step ((first | (go_at_call 88; exact later_bool HC e (laws_eqProc _ _ x y _ (T1.out.belowA (HG.out _)) (T2.out.belowA (HG.out _)))))))
      refine wpQuiet_nil ?_
      intro _ hw'
      obtain ⟨nq, hw''⟩ := hw'
      subst hw''
      go_wp2_with fail
      go_roundw
      case rel => exact ⟨j + 1, by omega, by go_num, below_then HB.out (HG.out _), Lib.hid (take_eq_succ HT.out hlt hlt' E.out)⟩
      case measure => simp [intOf]; omega
    · have e' := bool_no e
      have E := Lib.hid (decB_false e')
      clear e
      go_wp2_with fail
      refine wp_region_later (by kernel_rfl) (by kernel_rfl) ?_
      intro gw hgw hcw
      have HG := Lib.hid hgw
      have HC := Lib.hid hcw
      clear hgw hcw
      have d0' : ∀ n, (gw n).cell? ⟨b, off + j * 2, none⟩ = some (.string x.s) := fun n => cell_keep (HG.out n) d0
      have d1' : ∀ n, (gw n).cell? ⟨b, off + j * 2 + 1, none⟩ = some (.slice x.A x.m x.c) := fun n => cell_keep (HG.out n) d1
      have e0' : ∀ n, (gw n).cell? ⟨b', off' + j * 2, none⟩ = some (.string y.s) := fun n => cell_keep (HG.out n) e0
      have e1' : ∀ n, (gw n).cell? ⟨b', off' + j * 2 + 1, none⟩ = some (.slice y.A y.m y.c) := fun n => cell_keep (HG.out n) e1
      clear d0 d1 e0 e1
      repeat (go_big_quiet_step ((first | (go_at_call 88; exact later_bool HC e' (laws_eqProc _ _ x y _ (T1.out.belowA (HG.out _)) (T2.out.belowA (HG.out _)))))))
      refine wpQuiet_nil ?_
      intro _ hw'
      obtain ⟨nq, hw''⟩ := hw'
      subst hw''
      go_wp2_with fail
      go_ret
      exact ⟨ret_bool (decB_no (fun q => E.out (by subst q; rfl))).symm, below_then HB.out (HG.out _)⟩
set_option maxHeartbeats 800000 in
theorem laws_eqProg (p q : Pg) (x y : V3) (w : World) (hp : PgIs w x p) (hq : PgIs w y q) :
    Calls Try.prog 20 #[x.val p, y.val q] w fun e w' => e = .returned (.bool (decB (p = q))) ∧ Below w.heap.size w w' := by
  obtain ⟨gs, ls, ps⟩ := p
  obtain ⟨gs', ls', ps'⟩ := q
  obtain ⟨gA, gc, lA, lc, pA, pc⟩ := x
  obtain ⟨gA', gc', lA', lc', pA', pc'⟩ := y
  have HP := Lib.hid hp
  have HQ := Lib.hid hq
  have a1 := hp.p1
  have a2 := hp.p2
  have a1' := hq.p1
  have a2' := hq.p2
  simp only at a1 a2 a1' a2'
  unfold V3.val
  simp only
  clear hp hq
  by_cases c1 : gs = gs'
  case neg =>
    have d1 : decide (gs = gs') = false := decide_no c1
    have C := Lib.hid c1
    clear c1
    go_enter Try.func20, Try.ntmps20
    go_wp2_with fail
    refine (laws_eqStringS _ _ gs gs' _ (HP.out.gs.below (by repeat' first|exact .refl _ _|exact Nat.le_refl _|refine .alloc ?_ ?_ _|refine .setCell ?_ ?_ _|refine .drew ?_|refine below_drewN ?_ _|assumption|(simp;done)|(simp;omega))) (HQ.out.gs.below (by repeat' first|exact .refl _ _|exact Nat.le_refl _|refine .alloc ?_ ?_ _|refine .setCell ?_ ?_ _|refine .drew ?_|refine below_drewN ?_ _|assumption|(simp;done)|(simp;omega)))).mono ?_
    rintro e w1 ⟨rfl, q1⟩
    have B1 : Hid (Below w.heap.size w w1) := Lib.hid (Below.trans (by repeat' first|exact .refl _ _|exact Nat.le_refl _|refine .alloc ?_ ?_ _|refine .setCell ?_ ?_ _|refine .drew ?_|refine below_drewN ?_ _|assumption|(simp;done)|(simp;omega)) (q1.below.mono (by simp; omega)))
    rw [d1]
    clear q1
    go_wp2_with fail
    go_ret
    exact ⟨ret_bool (decB_no (fun e => C.out (by injection e))).symm, B1.out⟩
  have d1 : decide (gs = gs') = true := decide_eq_true c1
  have C1 := Lib.hid c1
  clear c1
  by_cases c2 : ls = ls'
  case neg =>
    have d2 : decide (ls = ls') = false := decide_no c2
    have C := Lib.hid c2
    clear c2
    go_enter Try.func20, Try.ntmps20
    go_wp2_with fail
    refine (laws_eqStringS _ _ gs gs' _ (HP.out.gs.below (by repeat' first|exact .refl _ _|exact Nat.le_refl _|refine .alloc ?_ ?_ _|refine .setCell ?_ ?_ _|refine .drew ?_|refine below_drewN ?_ _|assumption|(simp;done)|(simp;omega))) (HQ.out.gs.below (by repeat' first|exact .refl _ _|exact Nat.le_refl _|refine .alloc ?_ ?_ _|refine .setCell ?_ ?_ _|refine .drew ?_|refine below_drewN ?_ _|assumption|(simp;done)|(simp;omega)))).mono ?_
    rintro e w1 ⟨rfl, q1⟩
    obtain ⟨n1, rfl⟩ := q1
    rw [d1]
    go_wp2_with fail
    refine (laws_eqStringS _ _ ls ls' _ (HP.out.ls.below (by repeat' first|exact .refl _ _|exact Nat.le_refl _|refine .alloc ?_ ?_ _|refine .setCell ?_ ?_ _|refine .drew ?_|refine below_drewN ?_ _|assumption|(simp;done)|(simp;omega))) (HQ.out.ls.below (by repeat' first|exact .refl _ _|exact Nat.le_refl _|refine .alloc ?_ ?_ _|refine .setCell ?_ ?_ _|refine .drew ?_|refine below_drewN ?_ _|assumption|(simp;done)|(simp;omega)))).mono ?_
    rintro e w2 ⟨rfl, q2⟩
    have B2 : Hid (Below w.heap.size w w2) := Lib.hid (Below.trans (by repeat' first|exact .refl _ _|exact Nat.le_refl _|refine .alloc ?_ ?_ _|refine .setCell ?_ ?_ _|refine .drew ?_|refine below_drewN ?_ _|assumption|(simp;done)|(simp;omega)) (q2.below.mono (by simp; omega)))
    rw [d2]
    clear q2
    go_wp2_with fail
    go_ret
    exact ⟨ret_bool (decB_no (fun e => C.out (by injection e))).symm, B2.out⟩
  have d2 : decide (ls = ls') = true := decide_eq_true c2
  have C2 := Lib.hid c2
  clear c2
  go_enter Try.func20, Try.ntmps20
  go_wp2_with fail
  refine (laws_eqStringS _ _ gs gs' _ (HP.out.gs.below (by repeat' first|exact .refl _ _|exact Nat.le_refl _|refine .alloc ?_ ?_ _|refine .setCell ?_ ?_ _|refine .drew ?_|refine below_drewN ?_ _|assumption|(simp;done)|(simp;omega))) (HQ.out.gs.below (by repeat' first|exact .refl _ _|exact Nat.le_refl _|refine .alloc ?_ ?_ _|refine .setCell ?_ ?_ _|refine .drew ?_|refine below_drewN ?_ _|assumption|(simp;done)|(simp;omega)))).mono ?_
  rintro e w1 ⟨rfl, q1⟩
  obtain ⟨n1, rfl⟩ := q1
  rw [d1]
  go_wp2_with fail
  refine (laws_eqStringS _ _ ls ls' _ (HP.out.ls.below (by repeat' first|exact .refl _ _|exact Nat.le_refl _|refine .alloc ?_ ?_ _|refine .setCell ?_ ?_ _|refine .drew ?_|refine below_drewN ?_ _|assumption|(simp;done)|(simp;omega))) (HQ.out.ls.below (by repeat' first|exact .refl _ _|exact Nat.le_refl _|refine .alloc ?_ ?_ _|refine .setCell ?_ ?_ _|refine .drew ?_|refine below_drewN ?_ _|assumption|(simp;done)|(simp;omega)))).mono ?_
  rintro e w2 ⟨rfl, q2⟩
  obtain ⟨n2, rfl⟩ := q2
  rw [d2]
  go_wp2_with fail
  refine (laws_eqProcS ps ps' pA pA' pc pc' _ (HP.out.p3.belowA (by repeat' first|exact .refl _ _|exact Nat.le_refl _|refine .alloc ?_ ?_ _|refine .setCell ?_ ?_ _|refine .drew ?_|refine below_drewN ?_ _|assumption|(simp;done)|(simp;omega))) (HQ.out.p3.belowA (by repeat' first|exact .refl _ _|exact Nat.le_refl _|refine .alloc ?_ ?_ _|refine .setCell ?_ ?_ _|refine .drew ?_|refine below_drewN ?_ _|assumption|(simp;done)|(simp;omega))) a1 a1' a2 a2').mono ?_
  rintro e w3 ⟨rfl, b3⟩
  have B3 : Hid (Below w.heap.size w w3) := Lib.hid (Below.trans (by repeat' first|exact .refl _ _|exact Nat.le_refl _|refine .alloc ?_ ?_ _|refine .setCell ?_ ?_ _|refine .drew ?_|refine below_drewN ?_ _|assumption|(simp;done)|(simp;omega)) (b3.mono (by simp; omega)))
  clear b3
  by_cases c3 : ps = ps'
  · rw [decB_yes c3]
    have C3 := Lib.hid c3
    clear c3
    go_wp2_with fail
    go_ret
    exact ⟨ret_bool (decB_yes (by rw [C1.out, C2.out, C3.out])).symm, B3.out⟩
  · rw [decB_no c3]
    have C3 := Lib.hid c3
    clear c3
    go_wp2_with fail
    go_ret
    exact ⟨ret_bool (decB_no (fun e => C3.out (by injection e))).symm, B3.out⟩
end Go.Proofs.Ytadcebdhgocmhaa
