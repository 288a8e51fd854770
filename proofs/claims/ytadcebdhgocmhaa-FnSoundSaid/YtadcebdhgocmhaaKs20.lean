/- Several texts in one: Reads, PgEq. -/
import Derived.Test.YtadcebdhgocmhaaKs7
import Derived.Test.YtadcebdhgocmhaaKs15
import Derived.Test.YtadcebdhgocmhaaKs2
import Derived.Deep.QuietTactic
import Derived.BigQuiet
import Derived.Test.YtadcebdhgocmhaaKs19
namespace Go.Proofs.Ytadcebdhgocmhaa
open Go.RowKit
set_option linter.unusedVariables false


def hasS (ss : List ByteArray) (x : ByteArray) : Bool := ss.any fun s => decide (s = x)
theorem has_iff {ss : List ByteArray} {x : ByteArray} : hasS ss x = true ↔ x ∈ ss := by
  unfold hasS
  rw [List.any_eq_true]
  constructor
  · rintro ⟨y, hy, e⟩; rw [← of_decide_eq_true e]; exact hy
  · intro h; exact ⟨x, h, decide_eq_true rfl⟩
theorem placeS_has (ss : List ByteArray) (x : ByteArray) : decide (0 ≤ placeS ss x) = hasS ss x := by
  rw [Bool.eq_iff_iff, has_iff, decide_eq_true_eq]
  unfold placeS
  cases h : ss.findIdx? (fun s => decide (s = x)) with
  | none =>
    rw [List.findIdx?_eq_none_iff] at h
    constructor
    · intro h'; simp at h'
    · intro hx; simpa using h x hx
  | some k =>
    rw [List.findIdx?_eq_some_iff_getElem] at h
    obtain ⟨hk, he, _⟩ := h
    constructor
    · intro _; rw [← of_decide_eq_true he]; exact List.getElem_mem hk
    · intro _; simp
def addOnceP (ss : List ByteArray) (x : ByteArray) : List ByteArray := if hasS ss x = true then ss else ss ++ [x]
theorem addOnce_yes {ss : List ByteArray} {x : ByteArray} (h : hasS ss x = true) : addOnceP ss x = ss := by simp [addOnceP, h]
theorem addOnce_no {ss : List ByteArray} {x : ByteArray} (h : hasS ss x = false) : addOnceP ss x = ss ++ [x] := by simp [addOnceP, h]
theorem addOnce_len (ss : List ByteArray) (x : ByteArray) : (addOnceP ss x).length ≤ ss.length + 1 := by unfold addOnceP; split <;> simp
theorem hasS_at {ss : List ByteArray} {x : ByteArray} {k : Nat} (hk : k < ss.length) (e : ss[k] = x) : hasS ss x = true := has_iff.2 (by rw [← e]; exact List.getElem_mem hk)
theorem hasS_no {ss : List ByteArray} {x : ByteArray} (h : ∀ s ∈ ss, s ≠ x) : hasS ss x = false := by
  cases e : hasS ss x with
  | false => rfl
  | true => exact absurd rfl (h x (has_iff.1 e))
theorem map_snoc (ss : List ByteArray) (x : ByteArray) : ss.map Value.string ++ [.string x] = (ss ++ [x]).map Value.string := by simp
mutual
def readsT (acc : List ByteArray) : Tm → List ByteArray
  | .mk k _ s kids => if k = 2 then addOnceP acc s else readsTs acc kids
def readsTs (acc : List ByteArray) : List Tm → List ByteArray
  | [] => acc
  | t :: r => readsTs (readsT acc t) r
end
theorem readsT_var (acc : List ByteArray) (n : Int) (s : ByteArray) (kids : List Tm) : readsT acc (.mk 2 n s kids) = addOnceP acc s := by rw [readsT, if_pos rfl]
theorem readsT_other (acc : List ByteArray) {k : Int} (h : k ≠ 2) (n : Int) (s : ByteArray) (kids : List Tm) : readsT acc (.mk k n s kids) = readsTs acc kids := by rw [readsT, if_neg h]
theorem readsTs_append (acc : List ByteArray) (l r : List Tm) : readsTs acc (l ++ r) = readsTs (readsTs acc l) r := by
  induction l generalizing acc with
  | nil => simp [readsTs]
  | cons t l ih => rw [List.cons_append, readsTs, readsTs, ih]
theorem readsTs_take (acc : List ByteArray) (l : List Tm) (j : Nat) (h : j < l.length) : readsTs acc (l.take (j + 1)) = readsT (readsTs acc (l.take j)) l[j] := by
  have e : l.take (j + 1) = l.take j ++ [l[j]] := List.take_succ_eq_append_getElem h
  rw [e, readsTs_append]; simp [readsTs]
mutual
theorem readsT_len (acc : List ByteArray) : (t : Tm) → (readsT acc t).length ≤ acc.length + nodes t
  | .mk k n s kids => by
    rw [readsT, nodes]
    split
    · have := addOnce_len acc s; omega
    · have := readsTs_len acc kids; omega
theorem readsTs_len (acc : List ByteArray) : (l : List Tm) → (readsTs acc l).length ≤ acc.length + nodess l
  | [] => by rw [readsTs, nodess]; omega
  | t :: r => by
    rw [readsTs, nodess]
    have := readsT_len acc t
    have := readsTs_len (readsT acc t) r
    omega
end
theorem nodess_split (l : List Tm) (j : Nat) (h : j < l.length) : nodess (l.take j) + nodes l[j] ≤ nodess l := by
  have e : nodess l = nodess (l.take j) + nodess (l.drop j) := by
    have hh : ∀ (a b : List Tm), nodess (a ++ b) = nodess a + nodess b := by
      intro a b
      induction a with
      | nil => simp [nodess]
      | cons y t ih => rw [List.cons_append, nodess, nodess, ih]; omega
    rw [← hh, List.take_append_drop]
  rw [List.drop_eq_getElem_cons h, nodess] at e
  omega
theorem OwnStrs.alloc {w0 w : World} {v : Value} {ss : List ByteArray} (h : OwnStrs w0 w v ss) (o : Obj) : OwnStrs w0 (w.alloc o) v ss := Own.alloc h o
theorem OwnStrs.cons {w0 w : World} {v : Value} {ss : List ByteArray} (h : OwnStrs w0 w v ss) : ∃ A c, v = .slice A ss.length c ∧ ss.length ≤ c := Own.slice h
theorem slices_Contains (v : Value) (ss : List ByteArray) (x : ByteArray) (w : World) (h : IsStrs w v ss) :
    Calls Try.prog 30 #[v, .string x] w fun e w' => e = .returned (.bool (hasS ss x)) ∧ w = w' := by
  have P := Lib.hid (placeS_has ss x)
  have H := Lib.hid h
  clear h
  go_enter Try.func30, Try.ntmps30
  go_wp2_with fail
  refine (slices_Index v ss x _ H.out).mono ?_
  rintro e w1 ⟨rfl, rfl⟩
  go_wp2_with fail
  go_ret
  exact ⟨ret_bool P.out, rfl⟩
theorem impl_addOnce (w0 w : World) (v : Value) (ss : List ByteArray) (x : ByteArray) (own : OwnStrs w0 w v ss) (hb : ss.length ≤ 10000000) :
    Calls Try.prog 37 #[v, .string x] w fun e w' => ∃ v', e = .returned v' ∧ OwnStrs w0 w' v' (addOnceP ss x) ∧ KeepT 9 w w' := by
  have OW := Lib.hid own
  obtain ⟨A, c, rfl, hl⟩ := own.slice
  clear own
  cases h : hasS ss x with
  | true =>
    have HA := Lib.hid (addOnce_yes h)
    go_enter Try.func37, Try.ntmps37
    go_wp2_with fail
    refine (slices_Contains _ ss x _ OW.out.isStrs).mono ?_
    rintro e w1 ⟨rfl, rfl⟩
    rw [h]
    go_wp2_with fail
    go_ret
    exact ⟨_, rfl, by rw [HA.out]; exact OW.out, KeepT.refl' _ _⟩
  | false =>
    have HA := Lib.hid (addOnce_no h)
    go_enter Try.func37, Try.ntmps37
    go_wp2_with fail
    refine (slices_Contains _ ss x _ OW.out.isStrs).mono ?_
    rintro e w1 ⟨rfl, rfl⟩
    rw [h]
    go_wp2_with (at_builtin; refine wpList_app_keep rfl _ _ _ rfl strT OW.out _ 1 rfl rfl rfl (by simp [Value.oneCell']) (by simp only [maxLen]; omega) (by omega) ?_; intro v3 w3 own3 kp3)
    go_ret
    refine ⟨_, rfl, ?_, kp3⟩
    rw [HA.out]
    unfold OwnStrs
    rw [List.length_append, ← map_snoc]
    exact own3
abbrev AdC (t : Tm) : Prop := ∀ (k n : Int) (s : ByteArray) (A : Option Addr) (m c : Nat) (w0 w : World) (v : Value) (acc : List ByteArray), TmIs AnyB w0 [.int .i64 k, .int .i64 n, .string s, .slice A m c] t → OwnStrs w0 w v acc → acc.length + nodes t ≤ 10000000 →
  Calls Try.prog 38 #[v, .agg #[.int .i64 k, .int .i64 n, .string s, .slice A m c]] w fun e w' => ∃ v', e = .returned v' ∧ OwnStrs w0 w' v' (readsT acc t) ∧ KeepT 9 w w'
set_option maxHeartbeats 800000 in
theorem impl_addReads (t : Tm) : AdC t := by
  induction hN : nodes t using Nat.strongRecOn generalizing t with
  | ind N ih =>
    intro k n s A m c w0 w v acc ht own hb
    obtain ⟨kids, rfl, rfl, hl, hc, _, _, _, row⟩ := ht.inv
    have IH : Hid (∀ x ∈ kids, AdC x) := Lib.hid fun x hx => ih (nodes x) (by rw [← hN]; exact kid_lt hx) x rfl
    have RW := Lib.hid row
    have OW := Lib.hid own
    obtain ⟨A0, c0, rfl, hl0⟩ := own.slice
    rw [nodes] at hb
    clear ih hN ht row own
    by_cases e : k = 2
    · subst e
      rw [readsT_var]
      go_enter Try.func38, Try.ntmps38
      go_wp2_with fail
      refine (impl_addOnce w0 _ _ acc s (OW.out.alloc _) (by omega)).mono ?_
      rintro e w1 ⟨v1, rfl, own1, kp1⟩
      have O1 := Lib.hid own1
      have K1 : Hid (KeepT 9 w w1) := Lib.hid (KeepT.trans' (KeepT.of_below' (by repeat' (first | exact Below.refl _ _ | exact Nat.le_refl _ | (refine Below.alloc ?_ ?_ _) | (refine Below.setCell ?_ ?_ _) | (refine Below.drew ?_) | (refine below_drewN ?_ _) | assumption | (simp; done) | (simp; omega)))) kp1)
      obtain ⟨A1, c1, rfl, _⟩ := own1.slice
      clear own1 kp1
      go_wp2_with fail
      go_ret
      exact ⟨_, rfl, O1.out, K1.out⟩
    · rw [readsT_other acc e]
      have e' : (k == 2) = false := beq_eq_false_iff_ne.2 e
      unfold maxLen at hc
      clear e
      go_enter Try.func38, Try.ntmps38
      go_wp2_with fail
      go_loopw [0, 17] (fun lv i wr => ∃ j : Nat, j ≤ kids.length ∧ i = .int .i64 j ∧ ∃ A' c', lv = .slice A' (readsTs acc (kids.take j)).length c' ∧ Hid (OwnStrs w0 wr (.slice A' (readsTs acc (kids.take j)).length c') (readsTs acc (kids.take j)) ∧ KeepT 9 w wr)) (fun _ i _ => kids.length - (intOf i).toNat)
      case atStart => exact ⟨0, Nat.zero_le _, rfl, A0, c0, rfl, Lib.hid ⟨OW.out.alloc _, KeepT.of_below' (by repeat' (first | exact Below.refl _ _ | exact Nat.le_refl _ | (refine Below.alloc ?_ ?_ _) | (refine Below.setCell ?_ ?_ _) | (refine Below.drew ?_) | (refine below_drewN ?_ _) | assumption | (simp; done) | (simp; omega)))⟩⟩
      case round =>
        obtain ⟨j, hj, rfl, A', c', rfl, HO⟩ := hrel
        by_cases hlt : j < kids.length
        · obtain ⟨b, off, k1, n1, s1, A1, m1, c1, rfl, _, d0, d1, d2, d3, ht1⟩ := rd_term RW.out hlt
          replace d0 := cell_keep HO.out.1.2 d0
          replace d1 := cell_keep HO.out.1.2 d1
          replace d2 := cell_keep HO.out.1.2 d2
          replace d3 := cell_keep HO.out.1.2 d3
          have T1 := Lib.hid ht1
          have hlb := cell_lt d0
          have hnl := nodess_split kids j hlt
          have hrl := readsTs_len acc (kids.take j)
          have HT := Lib.hid (readsTs_take acc kids j hlt)
          have h0k : (0 : Int) ≤ (j : Int) := by omega
          clear ht1
          go_wp2_with fail
          refine (IH.out _ (List.getElem_mem hlt) k1 n1 s1 A1 m1 c1 w0 _ _ _ T1.out (HO.out.1.alloc _) (by omega)).mono ?_
          rintro e w1 ⟨v1, rfl, own1, kp1⟩
          rw [← HT.out] at own1
          have O1 := Lib.hid (And.intro own1 (KeepT.trans' HO.out.2 (KeepT.trans' (KeepT.of_below' (by repeat' (first | exact Below.refl _ _ | exact Nat.le_refl _ | (refine Below.alloc ?_ ?_ _) | (refine Below.setCell ?_ ?_ _) | (refine Below.drew ?_) | (refine below_drewN ?_ _) | assumption | (simp; done) | (simp; omega)))) kp1)))
          obtain ⟨A2, c2, rfl, _⟩ := own1.slice
          clear own1 kp1
          go_wp2_with fail
          go_roundw
          case rel => exact ⟨j + 1, by omega, by go_num, A2, c2, rfl, O1⟩
          case measure => simp [intOf]; omega
        · go_wp2_with fail
          go_ret
          have := HO.out
          rw [List.take_of_length_le (by omega)] at this ⊢
          exact ⟨_, rfl, this.1, this.2⟩
abbrev RdC (t : Tm) : Prop := ∀ (k n : Int) (s : ByteArray) (A : Option Addr) (m c : Nat) (w0 w : World) (v : Value) (acc : List ByteArray), TmIs AnyB w0 [.int .i64 k, .int .i64 n, .string s, .slice A m c] t → OwnStrs w0 w v acc → acc.length + nodes t ≤ 10000000 →
  Calls Try.prog 103 #[.agg #[.int .i64 k, .int .i64 n, .string s, .slice A m c], v] w fun e w' => ∃ v', e = .returned v' ∧ OwnStrs w0 w' v' (readsT acc t) ∧ KeepT 9 w w'
set_option maxHeartbeats 800000 in
theorem spec_reads_var (n : Int) (s : ByteArray) (A : Option Addr) (m c : Nat) (w0 w : World) (v : Value) (acc : List ByteArray) (own : OwnStrs w0 w v acc) (hb : acc.length ≤ 9999999) :
    Calls Try.prog 103 #[.agg #[.int .i64 2, .int .i64 n, .string s, .slice A m c], v] w fun e w' => ∃ v', e = .returned v' ∧ OwnStrs w0 w' v' (addOnceP acc s) ∧ KeepT 9 w w' := by
  have OW := Lib.hid own
  obtain ⟨A0, c0, rfl, hl0⟩ := own.slice
  have hc0 := own_cap' own
  unfold maxLen at hc0
  clear own
  go_enter Try.func103, Try.ntmps103
  go_wp2_with fail
  go_loopw [5] (fun i wr => ∃ j : Nat, j ≤ acc.length ∧ i = .int .i64 j ∧ wr.cell? ⟨w.heap.size, 2, none⟩ = some (.string s) ∧ Hid (OwnStrs w0 wr (.slice A0 acc.length c0) acc ∧ KeepT 9 w wr) ∧ Hid (∀ x ∈ acc.take j, x ≠ s)) (fun i _ => acc.length - (intOf i).toNat)
  case atStart => exact ⟨0, Nat.zero_le _, rfl, by simp, Lib.hid ⟨OW.out.alloc _, KeepT.of_below' (by repeat' (first | exact Below.refl _ _ | exact Nat.le_refl _ | (refine Below.alloc ?_ ?_ _) | (refine Below.setCell ?_ ?_ _) | (refine Below.drew ?_) | (refine below_drewN ?_ _) | assumption | (simp; done) | (simp; omega)))⟩, Lib.hid (by simp)⟩
  case round =>
    obtain ⟨j, hj, rfl, x2, HO, HT⟩ := hrel
    by_cases hlt : j < acc.length
    · obtain ⟨b, off, rfl, hcell⟩ := rd_str (Own.rd HO.out.1) hlt
      have h0k : (0 : Int) ≤ (j : Int) := by omega
      have h1k : (j : Int) < (acc.length : Int) := by omega
      have q := str_eq acc[j] s
      by_cases e : acc[j] = s
      · have HA := Lib.hid (addOnce_yes (hasS_at hlt e))
        rw [decide_eq_true e] at q
        clear e
        go_wp2_with fail
        go_quiet (fail)
        go_wp2_with fail
        go_ret
        exact ⟨_, rfl, by rw [HA.out]; exact HO.out.1.below (Qt.of_drewN _ _).below, KeepT.trans' HO.out.2 (KeepT.of_below' (Qt.of_drewN _ _).below)⟩
      · have HE := Lib.hid e
        rw [decide_no e] at q
        clear e
        go_wp2_with fail
        go_quiet (fail)
        go_wp2_with fail
        go_roundw
        case rel => exact ⟨j + 1, by omega, by go_num, x2, Lib.hid ⟨HO.out.1.below (Qt.of_drewN _ _).below, KeepT.trans' HO.out.2 (KeepT.of_below' (Qt.of_drewN _ _).below)⟩, Lib.hid (take_all_succ HT.out hlt HE.out)⟩
        case measure => simp [intOf]; omega
    · have HA := Lib.hid (addOnce_no (hasS_no (by have := HT.out; rwa [List.take_of_length_le (by omega)] at this)))
      go_wp2_with (at_builtin; refine wpList_app_keep rfl _ _ _ rfl strT HO.out.1 _ 1 rfl rfl rfl (by simp [Value.oneCell']) (by simp only [maxLen]; omega) (by omega) ?_; intro v3 w3 own3 kp3)
      go_ret
      refine ⟨_, rfl, ?_, KeepT.trans' HO.out.2 kp3⟩
      rw [HA.out]
      unfold OwnStrs
      rw [List.length_append, ← map_snoc]
      exact own3
set_option maxHeartbeats 800000 in
theorem spec_l03Reads (t : Tm) : RdC t := by
  induction hN : nodes t using Nat.strongRecOn generalizing t with
  | ind N ih =>
    intro k n s A m c w0 w v acc ht own hb
    obtain ⟨kids, rfl, rfl, hl, hc, _, _, _, row⟩ := ht.inv
    have IH : Hid (∀ x ∈ kids, RdC x) := Lib.hid fun x hx => ih (nodes x) (by rw [← hN]; exact kid_lt hx) x rfl
    have RW := Lib.hid row
    have OW := Lib.hid own
    rw [nodes] at hb
    by_cases e : k = 2
    · subst e
      rw [readsT_var]
      exact spec_reads_var n s A _ c w0 w v acc own (by omega)
    obtain ⟨A0, c0, rfl, hl0⟩ := own.slice
    clear ih hN ht row own
    rw [readsT_other acc e]
    have e' : (k == 2) = false := beq_eq_false_iff_ne.2 e
    unfold maxLen at hc
    clear e
    go_enter Try.func103, Try.ntmps103
    go_wp2_with fail
    go_loopw [1, 6] (fun lv i wr => ∃ j : Nat, j ≤ kids.length ∧ i = .int .i64 j ∧ wr.cell? ⟨w.heap.size, 3, none⟩ = some (.slice A kids.length c) ∧ ∃ A' c', lv = .slice A' (readsTs acc (kids.take j)).length c' ∧ Hid (OwnStrs w0 wr (.slice A' (readsTs acc (kids.take j)).length c') (readsTs acc (kids.take j)) ∧ KeepT 9 w wr ∧ Sane 9 wr w.heap.size)) (fun _ i _ => kids.length - (intOf i).toNat)
    case atStart => exact ⟨0, Nat.zero_le _, rfl, by simp, A0, c0, rfl, Lib.hid ⟨OW.out.alloc _, KeepT.of_below' (by repeat' (first | exact Below.refl _ _ | exact Nat.le_refl _ | (refine Below.alloc ?_ ?_ _) | (refine Below.setCell ?_ ?_ _) | (refine Below.drew ?_) | (refine below_drewN ?_ _) | assumption | (simp; done) | (simp; omega))), sane_new (by decide)⟩⟩
    case round =>
      obtain ⟨j, hj, rfl, x3, A', c', rfl, HO⟩ := hrel
      by_cases hlt : j < kids.length
      · obtain ⟨b, off, k1, n1, s1, A1, m1, c1, rfl, _, d0, d1, d2, d3, ht1⟩ := rd_term RW.out hlt
        replace d0 := cell_keep HO.out.1.2 d0
        replace d1 := cell_keep HO.out.1.2 d1
        replace d2 := cell_keep HO.out.1.2 d2
        replace d3 := cell_keep HO.out.1.2 d3
        have T1 := Lib.hid ht1
        have hlb := cell_lt d0
        have hnl := nodess_split kids j hlt
        have hrl := readsTs_len acc (kids.take j)
        have HT := Lib.hid (readsTs_take acc kids j hlt)
        have h0k : (0 : Int) ≤ (j : Int) := by omega
        clear ht1
        go_wp2_with fail
        refine (IH.out _ (List.getElem_mem hlt) k1 n1 s1 A1 m1 c1 w0 _ _ _ T1.out HO.out.1 (by omega)).mono ?_
        rintro e w1 ⟨v1, rfl, own1, kp1⟩
        rw [← HT.out] at own1
        have y3 := KeepT.cellT kp1 HO.out.2.2 x3
        have O1 := Lib.hid (And.intro own1 (And.intro (KeepT.trans' HO.out.2.1 kp1) (sane_keep HO.out.2.2 (cell_lt x3) kp1)))
        obtain ⟨A2, c2, rfl, _⟩ := own1.slice
        clear own1 kp1
        go_wp2_with fail
        go_roundw
        case rel => exact ⟨j + 1, by omega, by go_num, y3, A2, c2, rfl, O1⟩
        case measure => simp [intOf]; omega
      · go_wp2_with fail
        go_ret
        have := HO.out
        rw [List.take_of_length_le (by omega)] at this ⊢
        exact ⟨_, rfl, this.1, this.2.1⟩

def BoxB (w : World) (g : Nat) (cs : List Value) : Prop := ∀ j u, cs[j]? = some u → w.cell? ⟨g, j, none⟩ = some u
theorem BoxB.below {w w' : World} {g : Nat} {cs : List Value} (h : BoxB w g cs) (hb : Below w.heap.size w w') : BoxB w' g cs := fun j u hu => cell_keep hb (h j u hu)
theorem BoxB.lit {w : World} {g : Nat} {cs : Array Value} {e : TypeId} (h : g = w.heap.size) : BoxB (w.alloc (.cells cs e)) g cs.toList := by
  subst h
  intro j u hu
  rw [World.cell?_alloc_new]
  simpa using hu
theorem BoxB.keepS {w w' : World} {g : Nat} {cs : List Value} {S : Nat → Prop} (h : BoxB w g cs) (hk : Keep S w w') (hS : S g) : BoxB w' g cs := fun j u hu => hk.cellEq hS (h j u hu)
end Go.Proofs.Ytadcebdhgocmhaa
