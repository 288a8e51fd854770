/- Lemmas for the row. -/
import Derived.Test.YtnmblfonmfjoeaaGreatDoorKc12
namespace Go.Proofs.YtnmblfonmfjoeaaGreatDoor
open Go.RowKit
set_option maxHeartbeats 800000
set_option linter.unusedVariables false
def StrP (w : World) (G : Nat → Prop) (cells : List Value) (s : ByteArray) : Prop := cells = [.string s] ∧ s.size ≤ maxLen
abbrev StrRowO (w : World) (F : Nat → Prop) (A : Option Addr) (ss : List ByteArray) : Prop := RowOf StrP w F 1 A ss
theorem StrP.keepP : ∀ w w' G cells x, StrP w G cells x → (∀ b, G b → w'.heap[b]? = w.heap[b]?) → StrP w' G cells x := fun _ _ _ _ _ h _ => h
def PrP (w : World) (G : Nat → Prop) (cells : List Value) (p : Pr) : Prop := ∃ x : V2, cells = x.cells ∧ p.name = x.s ∧ x.m = p.body.length ∧ x.s.size ≤ maxLen ∧ p.body.length ≤ x.c ∧ x.c ≤ maxLen ∧ StRowO w G x.A p.body
abbrev PrRowO (w : World) (F : Nat → Prop) (A : Option Addr) (l : List Pr) : Prop := RowOf PrP w F 2 A l
theorem PrP.keepP : ∀ w w' G cells x, PrP w G cells x → (∀ b, G b → w'.heap[b]? = w.heap[b]?) → PrP w' G cells x := fun _ _ _ _ _ ⟨x, e, a1, a2, a3, a4, a5, r⟩ hk => ⟨x, e, a1, a2, a3, a4, a5, r.keep hk⟩
theorem RowOf.keepR {α : Type} {P : World → (Nat → Prop) → List Value → α → Prop} (hP : ∀ w w' G cells x, P w G cells x → (∀ b, G b → w'.heap[b]? = w.heap[b]?) → P w' G cells x) {w w' : World} {F : Nat → Prop} {sz : Nat} {A : Option Addr} {xs : List α} (h : RowOf P w F sz A xs) (hk : ∀ b, F b → w'.heap[b]? = w.heap[b]?) : RowOf P w' F sz A xs := by
 obtain ⟨cs, G, row, hx⟩ := h
 exact ⟨cs, G, row.keep hk, fun i hi => hP _ _ _ _ _ (hx i hi) fun b hb => hk b (row.2.2.1 i b hi hb)⟩
theorem RowOf.subR {α : Type} {P : World → (Nat → Prop) → List Value → α → Prop} {w : World} {F F' : Nat → Prop} {sz : Nat} {A : Option Addr} {xs : List α} (h : RowOf P w F sz A xs) (hF : ∀ b, F b → F' b) : RowOf P w F' sz A xs := by
 obtain ⟨cs, G, r, hx⟩ := h
 exact ⟨cs, G, r.sub hF, hx⟩
theorem StrRowO.keep {w w' : World} {F : Nat → Prop} {A : Option Addr} {ss : List ByteArray} (h : StrRowO w F A ss) (hk : ∀ b, F b → w'.heap[b]? = w.heap[b]?) : StrRowO w' F A ss := RowOf.keepR StrP.keepP h hk
theorem PrRowO.keep {w w' : World} {F : Nat → Prop} {A : Option Addr} {l : List Pr} (h : PrRowO w F A l) (hk : ∀ b, F b → w'.heap[b]? = w.heap[b]?) : PrRowO w' F A l := RowOf.keepR PrP.keepP h hk
theorem StrRowO.set {w : World} {F : Nat → Prop} {A : Option Addr} {l : List ByteArray} (h : StrRowO w F A l) {p : Addr} (hp : ¬ F p.block) (u : Value) : StrRowO (w.setCell p u) F A l := h.keep fun b hb => Below.heap_setCell w p u b (fun e => hp (by rw [← e]; exact hb))
theorem PrRowO.set {w : World} {F : Nat → Prop} {A : Option Addr} {l : List Pr} (h : PrRowO w F A l) {p : Addr} (hp : ¬ F p.block) (u : Value) : PrRowO (w.setCell p u) F A l := h.keep fun b hb => Below.heap_setCell w p u b (fun e => hp (by rw [← e]; exact hb))
theorem StrRowO.rd {w : World} {F : Nat → Prop} {A : Option Addr} {ss : List ByteArray} (h : StrRowO w F A ss) : Rd w 1 A ss.length (ss.map Value.string) ∧ ∀ s ∈ ss, s.size ≤ maxLen := by
 obtain ⟨cs, G, row, hx⟩ := h
 constructor
 ·have e : cs = ss.map Value.string := by
   apply List.ext_getElem
   ·rw [row.1.1]; simp
   ·intro i h1 h2
    rw [row.1.1] at h1
    have hi : i < ss.length := by omega
    have := (hx i hi).1
    have h3 : ((cs.drop (i * 1)).take 1)[0]? = some (Value.string ss[i]) := by rw [this]; rfl
    rw [List.getElem?_take, if_pos (by omega), List.getElem?_drop, Nat.mul_one, Nat.add_zero] at h3
    rw [List.getElem?_eq_getElem (by omega)] at h3
    injection h3 with h3
    rw [h3]; simp
  rw [← e]; exact row.1
 ·intro s hs
  obtain ⟨i, hi, rfl⟩ := List.getElem_of_mem hs
  exact (hx i hi).2
theorem PrRowO.any {w : World} {F : Nat → Prop} {A : Option Addr} {l : List Pr} (h : PrRowO w F A l) : PrRow w A l := by
 obtain ⟨cs, G, row, hx⟩ := h
 obtain ⟨xs, hl, hxs⟩ := list_of l.length (fun i (x : V2) => (cs.drop (i * 2)).take 2 = x.cells ∧ ∀ h : i < l.length, PrIs w x l[i]) (fun i hi => by obtain ⟨x, e, a1, a2, a3, a4, a5, r⟩ := hx i hi; exact ⟨x, e, fun _ => ⟨a1, a2, a3, a4, a5, r.any⟩⟩)
 refine ⟨xs, hl, ?_, fun i h h' => (hxs i h').2 h⟩
 have e : cs = xs.flatMap V2.cells := by
  apply List.ext_getElem?
  intro j
  by_cases hj : j < l.length * 2
  ·have e1 : j = (j / 2) * 2 + j % 2 := by omega
   have hk : j / 2 < xs.length := by omega
   rw [e1, chunk_get (by omega) (hxs _ hk).1, flat_get V2.cells 2 v2_len _ _ _ hk (by omega)]
  ·rw [List.getElem?_eq_none (by rw [row.1.1]; omega), List.getElem?_eq_none (by rw [flat_length V2.cells 2 v2_len]; omega)]
 rw [← e, hl]; exact row.1
def PgO (w : World) (F : Nat → Prop) (x : V3) (p : Pg) : Prop := ∃ G L P : Nat → Prop, (∀ b, G b → F b) ∧ (∀ b, L b → F b) ∧ (∀ b, P b → F b) ∧ (∀ b, G b → L b → False) ∧ (∀ b, G b → P b → False) ∧ (∀ b, L b → P b → False) ∧
 p.globals.length ≤ x.gc ∧ x.gc ≤ maxLen ∧ StrRowO w G x.gA p.globals ∧ p.locks.length ≤ x.lc ∧ x.lc ≤ maxLen ∧ StrRowO w L x.lA p.locks ∧ p.procs.length ≤ x.pc ∧ x.pc ≤ maxLen ∧ PrRowO w P x.pA p.procs
theorem PgO.any {w : World} {F : Nat → Prop} {x : V3} {p : Pg} (h : PgO w F x p) : PgIs w x p := by
 obtain ⟨G, L, P, _, _, _, _, _, _, a1, a2, a3, b1, b2, b3, c1, c2, c3⟩ := h
 exact ⟨a1, a2, a3.rd.1, a3.rd.2, b1, b2, b3.rd.1, b3.rd.2, c1, c2, c3.any⟩
theorem PgO.keep {w w' : World} {F : Nat → Prop} {x : V3} {p : Pg} (h : PgO w F x p) (hk : ∀ b, F b → w'.heap[b]? = w.heap[b]?) : PgO w' F x p := by
 obtain ⟨G, L, P, s1, s2, s3, d1, d2, d3, a1, a2, a3, b1, b2, b3, c1, c2, c3⟩ := h
 exact ⟨G, L, P, s1, s2, s3, d1, d2, d3, a1, a2, a3.keep fun b h => hk b (s1 b h), b1, b2, b3.keep fun b h => hk b (s2 b h), c1, c2, c3.keep fun b h => hk b (s3 b h)⟩
theorem OwnStrs.rowO {w0 w : World} {A : Option Addr} {c : Nat} {ss : List ByteArray} (h : OwnStrs w0 w (.slice A ss.length c) ss) (hs : ∀ s ∈ ss, s.size ≤ maxLen) : StrRowO w (Made w0 w) A ss := by
 refine ⟨ss.map Value.string, fun _ _ => False, ⟨Own.rd h, fun hn => ?_, fun i b _ hg => hg.elim, fun i j b _ _ _ hg => hg.elim⟩, fun i hi => ⟨?_, hs _ (List.getElem_mem hi)⟩⟩
 ·rcases h.1.2 with ⟨he, h0⟩ | ⟨g, cap, cur, he, hb, hg, _⟩
  ·omega
  ·injection he with he
   exact ⟨g, 0, cur, _, he, ⟨hb, lt_of_block hg⟩, hg, fun _ _ hf => hf⟩
 ·apply List.ext_getElem?
  intro j
  rw [List.getElem?_take]
  by_cases hj : j < 1
  ·have : j = 0 := by omega
   subst this
   rw [if_pos (by omega), List.getElem?_drop]
   simp [hi]
  ·rw [if_neg hj, List.getElem?_eq_none (by simp; omega)]
theorem prT : ElemT Tryz.prog 25 40 2 40 := ElemT.mk' (z := .agg #[.string ByteArray.empty, .slice none 0 0]) Tryz.underlying25 (by kernel_rfl) rfl (by decide)
def hasS (ss : List ByteArray) (x : ByteArray) : Bool := ss.any fun s => decide (s = x)
theorem has_iff {ss : List ByteArray} {x : ByteArray} : hasS ss x = true ↔ x ∈ ss := by
 unfold hasS
 rw [List.any_eq_true]
 constructor
 ·rintro ⟨y, hy, e⟩; rw [← of_decide_eq_true e]; exact hy
 ·intro h; exact ⟨x, h, decide_eq_true rfl⟩
theorem placeS_has (ss : List ByteArray) (x : ByteArray) : decide (0 ≤ placeS ss x) = hasS ss x := by
 rw [Bool.eq_iff_iff, has_iff, decide_eq_true_eq]
 unfold placeS
 cases h : ss.findIdx? (fun s => decide (s = x)) with
 | none =>
  rw [List.findIdx?_eq_none_iff] at h
  constructor
  ·intro h'; simp at h'
  ·intro hx; simpa using h x hx
 | some k =>
  rw [List.findIdx?_eq_some_iff_getElem] at h
  obtain ⟨hk, he, _⟩ := h
  constructor
  ·intro _; rw [← of_decide_eq_true he]; exact List.getElem_mem hk
  ·intro _; simp
def addOnceP (ss : List ByteArray) (x : ByteArray) : List ByteArray := if hasS ss x = true then ss else ss ++ [x]
theorem addOnce_yes {ss : List ByteArray} {x : ByteArray} (h : hasS ss x = true) : addOnceP ss x = ss := by simp [addOnceP, h]
theorem addOnce_no {ss : List ByteArray} {x : ByteArray} (h : hasS ss x = false) : addOnceP ss x = ss ++ [x] := by simp [addOnceP, h]
theorem addOnce_len (ss : List ByteArray) (x : ByteArray) : (addOnceP ss x).length ≤ ss.length + 1 := by unfold addOnceP; split <;> simp
theorem hasS_at {ss : List ByteArray} {x : ByteArray} {k : Nat} (hk : k < ss.length) (e : ss[k] = x) : hasS ss x = true := has_iff.2 (by rw [← e]; exact List.getElem_mem hk)
theorem hasS_no {ss : List ByteArray} {x : ByteArray} (h : ∀ s ∈ ss, s ≠ x) : hasS ss x = false := by
 cases e : hasS ss x with
 | false => rfl
 | true => exact absurd rfl (h x (has_iff.1 e))
theorem map_snoc (ss : List ByteArray) (x : ByteArray) : ss.map Value.string ++ [.string x] = (ss ++ [x]).map Value.string := by simp
mutual
def readsT (acc : List ByteArray) : Tm → List ByteArray
 | .mk k _ s kids => if k = 2 then addOnceP acc s else readsTs acc kids
def readsTs (acc : List ByteArray) : List Tm → List ByteArray
 | [] => acc
 | t :: r => readsTs (readsT acc t) r
end
theorem readsT_var (acc : List ByteArray) (n : Int) (s : ByteArray) (kids : List Tm) : readsT acc (.mk 2 n s kids) = addOnceP acc s := by rw [readsT, if_pos rfl]
theorem readsT_other (acc : List ByteArray) {k : Int} (h : k ≠ 2) (n : Int) (s : ByteArray) (kids : List Tm) : readsT acc (.mk k n s kids) = readsTs acc kids := by rw [readsT, if_neg h]
theorem readsTs_append (acc : List ByteArray) (l r : List Tm) : readsTs acc (l ++ r) = readsTs (readsTs acc l) r := by
 induction l generalizing acc with
 | nil => simp [readsTs]
 | cons t l ih => rw [List.cons_append, readsTs, readsTs, ih]
theorem readsTs_take (acc : List ByteArray) (l : List Tm) (j : Nat) (h : j < l.length) : readsTs acc (l.take (j + 1)) = readsT (readsTs acc (l.take j)) l[j] := by
 have e : l.take (j + 1) = l.take j ++ [l[j]] := List.take_succ_eq_append_getElem h
 rw [e, readsTs_append]; simp [readsTs]
mutual
theorem readsT_len (acc : List ByteArray) : (t : Tm) → (readsT acc t).length ≤ acc.length + nodes t
 | .mk k n s kids => by
  rw [readsT, nodes]
  split
  ·have := addOnce_len acc s; omega
  ·have := readsTs_len acc kids; omega
theorem readsTs_len (acc : List ByteArray) : (l : List Tm) → (readsTs acc l).length ≤ acc.length + nodess l
 | [] => by rw [readsTs, nodess]; omega
 | t :: r => by
  rw [readsTs, nodess]
  have := readsT_len acc t
  have := readsTs_len (readsT acc t) r
  omega
end
theorem nodess_split (l : List Tm) (j : Nat) (h : j < l.length) : nodess (l.take j) + nodes l[j] ≤ nodess l := by
 have e : nodess l = nodess (l.take j) + nodess (l.drop j) := by
  have hh : ∀ (a b : List Tm), nodess (a ++ b) = nodess a + nodess b := by
   intro a b
   induction a with
   | nil => simp [nodess]
   | cons y t ih => rw [List.cons_append, nodess, nodess, ih]; omega
  rw [← hh, List.take_append_drop]
 rw [List.drop_eq_getElem_cons h, nodess] at e
 omega
theorem OwnStrs.alloc {w0 w : World} {v : Value} {ss : List ByteArray} (h : OwnStrs w0 w v ss) (o : Obj) : OwnStrs w0 (w.alloc o) v ss := Own.alloc h o
theorem OwnStrs.cons {w0 w : World} {v : Value} {ss : List ByteArray} (h : OwnStrs w0 w v ss) : ∃ A c, v = .slice A ss.length c ∧ ss.length ≤ c := Own.slice h
theorem slices_Contains (v : Value) (ss : List ByteArray) (x : ByteArray) (w : World) (h : IsStrs w v ss) :
  Calls Tryz.prog 47 #[v, .string x] w fun e w' => e = .returned (.bool (hasS ss x)) ∧ w = w' := by
 have P := qh (placeS_has ss x)
 have H := qh h
 clear h
 go_enter Tryz.func47, Tryz.ntmps47
 go_wp2_with fail
 refine (slices_Index v ss x _ H.out).mono ?_
 rintro e w1 ⟨rfl, rfl⟩
 go_wp2_with fail
 go_ret
 exact ⟨ret_bool P.out, rfl⟩
theorem impl_addOnce (w0 w : World) (v : Value) (ss : List ByteArray) (x : ByteArray) (own : OwnStrs w0 w v ss) (hb : ss.length ≤ 10000000) :
  Calls Tryz.prog 76 #[v, .string x] w fun e w' => ∃ v', e = .returned v' ∧ OwnStrs w0 w' v' (addOnceP ss x) ∧ KeepT 9 w w' := by
 have OW := qh own
 obtain ⟨A, c, rfl, hl⟩ := own.slice
 clear own
 cases h : hasS ss x with
 | true =>
  have HA := qh (addOnce_yes h)
  go_enter Tryz.func76, Tryz.ntmps76
  go_wp2_with fail
  refine (slices_Contains _ ss x _ OW.out.isStrs).mono ?_
  rintro e w1 ⟨rfl, rfl⟩
  rw [h]
  go_wp2_with fail
  go_ret
  exact ⟨_, rfl, by rw [HA.out]; exact OW.out, KeepT.refl' _ _⟩
 | false =>
  have HA := qh (addOnce_no h)
  go_enter Tryz.func76, Tryz.ntmps76
  go_wp2_with fail
  refine (slices_Contains _ ss x _ OW.out.isStrs).mono ?_
  rintro e w1 ⟨rfl, rfl⟩
  rw [h]
  go_wp2_with (at_builtin; refine wpList_app_keep rfl _ _ _ rfl strT OW.out _ 1 rfl rfl rfl (by simp [Value.oneCell']) (by simp only [maxLen]; omega) (by omega) ?_; intro v3 w3 own3 kp3)
  go_ret
  refine ⟨_, rfl, ?_, kp3⟩
  rw [HA.out]
  unfold OwnStrs
  rw [List.length_append, ← map_snoc]
  exact own3
abbrev AdC (t : Tm) : Prop := ∀ (k n : Int) (s : ByteArray) (A : Option Addr) (m c : Nat) (w0 w : World) (v : Value) (acc : List ByteArray), TmIs AnyB w0 [.int .i64 k, .int .i64 n, .string s, .slice A m c] t → OwnStrs w0 w v acc → acc.length + nodes t ≤ 10000000 →
 Calls Tryz.prog 86 #[v, .agg #[.int .i64 k, .int .i64 n, .string s, .slice A m c]] w fun e w' => ∃ v', e = .returned v' ∧ OwnStrs w0 w' v' (readsT acc t) ∧ KeepT 9 w w'
theorem impl_addReads (t : Tm) : AdC t := by
 induction hN : nodes t using Nat.strongRecOn generalizing t with
 | ind N ih =>
  intro k n s A m c w0 w v acc ht own hb
  obtain ⟨kids, rfl, rfl, hl, hc, _, _, _, row⟩ := ht.inv
  have IH : Hid (∀ x ∈ kids, AdC x) := qh fun x hx => ih (nodes x) (by rw [← hN]; exact kid_lt hx) x rfl
  have RW := qh row
  have OW := qh own
  obtain ⟨A0, c0, rfl, hl0⟩ := own.slice
  rw [nodes] at hb
  clear ih hN ht row own
  by_cases e : k = 2
  ·subst e
   rw [readsT_var]
   go_enter Tryz.func86, Tryz.ntmps86
   go_wp2_with fail
   refine (impl_addOnce w0 _ _ acc s (OW.out.alloc _) (by omega)).mono ?_
   rintro e w1 ⟨v1, rfl, own1, kp1⟩
   have O1 := qh own1
   have K1 : Hid (KeepT 9 w w1) := qh (KeepT.trans' (KeepT.of_below' zB) kp1)
   obtain ⟨A1, c1, rfl, _⟩ := own1.slice
   clear own1 kp1
   go_wp2_with fail
   go_ret
   exact ⟨_, rfl, O1.out, K1.out⟩
  ·rw [readsT_other acc e]
   have e' : (k == 2) = false := beq_eq_false_iff_ne.2 e
   unfold maxLen at hc
   clear e
   go_enter Tryz.func86, Tryz.ntmps86
   go_wp2_with fail
   go_loopw [0, 17] (fun lv i wr => ∃ j : Nat, j ≤ kids.length ∧ i = .int .i64 j ∧ ∃ A' c', lv = .slice A' (readsTs acc (kids.take j)).length c' ∧ Hid (OwnStrs w0 wr (.slice A' (readsTs acc (kids.take j)).length c') (readsTs acc (kids.take j)) ∧ KeepT 9 w wr)) (fun _ i _ => kids.length - (intOf i).toNat)
   case atStart => exact ⟨0, Nat.zero_le _, rfl, A0, c0, rfl, qh ⟨OW.out.alloc _, KeepT.of_below' zB⟩⟩
   case round =>
    obtain ⟨j, hj, rfl, A', c', rfl, HO⟩ := hrel
    by_cases hlt : j < kids.length
    ·obtain ⟨b, off, k1, n1, s1, A1, m1, c1, rfl, _, d0, d1, d2, d3, ht1⟩ := rd_term RW.out hlt
     replace d0 := cell_keep HO.out.1.2 d0
     replace d1 := cell_keep HO.out.1.2 d1
     replace d2 := cell_keep HO.out.1.2 d2
     replace d3 := cell_keep HO.out.1.2 d3
     have T1 := qh ht1
     have hlb := cell_lt d0
     have hnl := nodess_split kids j hlt
     have hrl := readsTs_len acc (kids.take j)
     have HT := qh (readsTs_take acc kids j hlt)
     have h0k : (0 : Int) ≤ (j : Int) := by omega
     clear ht1
     go_wp2_with fail
     refine (IH.out _ (List.getElem_mem hlt) k1 n1 s1 A1 m1 c1 w0 _ _ _ T1.out (HO.out.1.alloc _) (by omega)).mono ?_
     rintro e w1 ⟨v1, rfl, own1, kp1⟩
     rw [← HT.out] at own1
     have O1 := qh (And.intro own1 (KeepT.trans' HO.out.2 (KeepT.trans' (KeepT.of_below' zB) kp1)))
     obtain ⟨A2, c2, rfl, _⟩ := own1.slice
     clear own1 kp1
     go_wp2_with fail
     go_roundw
     case rel => exact ⟨j + 1, by omega, by go_num, A2, c2, rfl, O1⟩
     case measure => simp [intOf]; omega
    ·go_wp2_with fail
     go_ret
     have := HO.out
     rw [List.take_of_length_le (by omega)] at this ⊢
     exact ⟨_, rfl, this.1, this.2⟩
abbrev RdC (t : Tm) : Prop := ∀ (k n : Int) (s : ByteArray) (A : Option Addr) (m c : Nat) (w0 w : World) (v : Value) (acc : List ByteArray), TmIs AnyB w0 [.int .i64 k, .int .i64 n, .string s, .slice A m c] t → OwnStrs w0 w v acc → acc.length + nodes t ≤ 10000000 →
 Calls Tryz.prog 105 #[.agg #[.int .i64 k, .int .i64 n, .string s, .slice A m c], v] w fun e w' => ∃ v', e = .returned v' ∧ OwnStrs w0 w' v' (readsT acc t) ∧ KeepT 9 w w'
theorem spec_reads_var (n : Int) (s : ByteArray) (A : Option Addr) (m c : Nat) (w0 w : World) (v : Value) (acc : List ByteArray) (own : OwnStrs w0 w v acc) (hb : acc.length ≤ 9999999) :
  Calls Tryz.prog 105 #[.agg #[.int .i64 2, .int .i64 n, .string s, .slice A m c], v] w fun e w' => ∃ v', e = .returned v' ∧ OwnStrs w0 w' v' (addOnceP acc s) ∧ KeepT 9 w w' := by
 have OW := qh own
 obtain ⟨A0, c0, rfl, hl0⟩ := own.slice
 have hc0 := own_cap' own
 unfold maxLen at hc0
 clear own
 go_enter Tryz.func105, Tryz.ntmps105
 go_wp2_with fail
 go_loopw [5] (fun i wr => ∃ j : Nat, j ≤ acc.length ∧ i = .int .i64 j ∧ wr.cell? ⟨w.heap.size, 2, none⟩ = some (.string s) ∧ Hid (OwnStrs w0 wr (.slice A0 acc.length c0) acc ∧ KeepT 9 w wr) ∧ Hid (∀ x ∈ acc.take j, x ≠ s)) (fun i _ => acc.length - (intOf i).toNat)
 case atStart => exact ⟨0, Nat.zero_le _, rfl, by simp, qh ⟨OW.out.alloc _, KeepT.of_below' zB⟩, qh (by simp)⟩
 case round =>
  obtain ⟨j, hj, rfl, x2, HO, HT⟩ := hrel
  by_cases hlt : j < acc.length
  ·obtain ⟨b, off, rfl, hcell⟩ := rd_str (Own.rd HO.out.1) hlt
   have h0k : (0 : Int) ≤ (j : Int) := by omega
   have h1k : (j : Int) < (acc.length : Int) := by omega
   have q := str_eq acc[j] s
   by_cases e : acc[j] = s
   ·have HA := qh (addOnce_yes (hasS_at hlt e))
    rw [decide_eq_true e] at q
    clear e
    go_wp2_with fail
    go_quiet (fail)
    go_wp2_with fail
    go_ret
    exact ⟨_, rfl, by rw [HA.out]; exact HO.out.1.below (Qt.of_drewN _ _).below, KeepT.trans' HO.out.2 (KeepT.of_below' (Qt.of_drewN _ _).below)⟩
   ·have HE := qh e
    rw [decide_no e] at q
    clear e
    go_wp2_with fail
    go_quiet (fail)
    go_wp2_with fail
    go_roundw
    case rel => exact ⟨j + 1, by omega, by go_num, x2, qh ⟨HO.out.1.below (Qt.of_drewN _ _).below, KeepT.trans' HO.out.2 (KeepT.of_below' (Qt.of_drewN _ _).below)⟩, qh (take_all_succ HT.out hlt HE.out)⟩
    case measure => simp [intOf]; omega
  ·have HA := qh (addOnce_no (hasS_no (by have := HT.out; rwa [List.take_of_length_le (by omega)] at this)))
   go_wp2_with (at_builtin; refine wpList_app_keep rfl _ _ _ rfl strT HO.out.1 _ 1 rfl rfl rfl (by simp [Value.oneCell']) (by simp only [maxLen]; omega) (by omega) ?_; intro v3 w3 own3 kp3)
   go_ret
   refine ⟨_, rfl, ?_, KeepT.trans' HO.out.2 kp3⟩
   rw [HA.out]
   unfold OwnStrs
   rw [List.length_append, ← map_snoc]
   exact own3
theorem spec_l03Reads (t : Tm) : RdC t := by
 induction hN : nodes t using Nat.strongRecOn generalizing t with
 | ind N ih =>
  intro k n s A m c w0 w v acc ht own hb
  obtain ⟨kids, rfl, rfl, hl, hc, _, _, _, row⟩ := ht.inv
  have IH : Hid (∀ x ∈ kids, RdC x) := qh fun x hx => ih (nodes x) (by rw [← hN]; exact kid_lt hx) x rfl
  have RW := qh row
  have OW := qh own
  rw [nodes] at hb
  by_cases e : k = 2
  ·subst e
   rw [readsT_var]
   exact spec_reads_var n s A _ c w0 w v acc own (by omega)
  obtain ⟨A0, c0, rfl, hl0⟩ := own.slice
  clear ih hN ht row own
  rw [readsT_other acc e]
  have e' : (k == 2) = false := beq_eq_false_iff_ne.2 e
  unfold maxLen at hc
  clear e
  go_enter Tryz.func105, Tryz.ntmps105
  go_wp2_with fail
  go_loopw [1, 6] (fun lv i wr => ∃ j : Nat, j ≤ kids.length ∧ i = .int .i64 j ∧ wr.cell? ⟨w.heap.size, 3, none⟩ = some (.slice A kids.length c) ∧ ∃ A' c', lv = .slice A' (readsTs acc (kids.take j)).length c' ∧ Hid (OwnStrs w0 wr (.slice A' (readsTs acc (kids.take j)).length c') (readsTs acc (kids.take j)) ∧ KeepT 9 w wr ∧ Sane 9 wr w.heap.size)) (fun _ i _ => kids.length - (intOf i).toNat)
  case atStart => exact ⟨0, Nat.zero_le _, rfl, by simp, A0, c0, rfl, qh ⟨OW.out.alloc _, KeepT.of_below' zB, sane_new (by decide)⟩⟩
  case round =>
   obtain ⟨j, hj, rfl, x3, A', c', rfl, HO⟩ := hrel
   by_cases hlt : j < kids.length
   ·obtain ⟨b, off, k1, n1, s1, A1, m1, c1, rfl, _, d0, d1, d2, d3, ht1⟩ := rd_term RW.out hlt
    replace d0 := cell_keep HO.out.1.2 d0
    replace d1 := cell_keep HO.out.1.2 d1
    replace d2 := cell_keep HO.out.1.2 d2
    replace d3 := cell_keep HO.out.1.2 d3
    have T1 := qh ht1
    have hlb := cell_lt d0
    have hnl := nodess_split kids j hlt
    have hrl := readsTs_len acc (kids.take j)
    have HT := qh (readsTs_take acc kids j hlt)
    have h0k : (0 : Int) ≤ (j : Int) := by omega
    clear ht1
    go_wp2_with fail
    refine (IH.out _ (List.getElem_mem hlt) k1 n1 s1 A1 m1 c1 w0 _ _ _ T1.out HO.out.1 (by omega)).mono ?_
    rintro e w1 ⟨v1, rfl, own1, kp1⟩
    rw [← HT.out] at own1
    have y3 := KeepT.cellT kp1 HO.out.2.2 x3
    have O1 := qh (And.intro own1 (And.intro (KeepT.trans' HO.out.2.1 kp1) (sane_keep HO.out.2.2 (cell_lt x3) kp1)))
    obtain ⟨A2, c2, rfl, _⟩ := own1.slice
    clear own1 kp1
    go_wp2_with fail
    go_roundw
    case rel => exact ⟨j + 1, by omega, by go_num, y3, A2, c2, rfl, O1⟩
    case measure => simp [intOf]; omega
   ·go_wp2_with fail
    go_ret
    have := HO.out
    rw [List.take_of_length_le (by omega)] at this ⊢
    exact ⟨_, rfl, this.1, this.2.1⟩
def BoxB (w : World) (g : Nat) (cs : List Value) : Prop := ∀ j u, cs[j]? = some u → w.cell? ⟨g, j, none⟩ = some u
theorem BoxB.below {w w' : World} {g : Nat} {cs : List Value} (h : BoxB w g cs) (hb : Below w.heap.size w w') : BoxB w' g cs := fun j u hu => cell_keep hb (h j u hu)
theorem BoxB.lit {w : World} {g : Nat} {cs : Array Value} {e : TypeId} (h : g = w.heap.size) : BoxB (w.alloc (.cells cs e)) g cs.toList := by
 subst h
 intro j u hu
 rw [World.cell?_alloc_new]
 simpa using hu
theorem BoxB.keepS {w w' : World} {g : Nat} {cs : List Value} {S : Nat → Prop} (h : BoxB w g cs) (hk : Keep S w w') (hS : S g) : BoxB w' g cs := fun j u hu => hk.cellEq hS (h j u hu)
end Go.Proofs.YtnmblfonmfjoeaaGreatDoor
