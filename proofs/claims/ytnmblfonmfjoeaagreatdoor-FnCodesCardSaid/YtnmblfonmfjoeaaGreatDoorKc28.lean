/- Lemmas for the row. -/
import Derived.Test.YtnmblfonmfjoeaaGreatDoorKc27
namespace Go.Proofs.YtnmblfonmfjoeaaGreatDoor
open Go.RowKit
set_option linter.unusedVariables false
theorem okT_mono {r : Nat} : ∀ {t : Tm}, okT r t = true → okT (r + 1) t = true := by
 induction r with
 | zero =>
  intro t h
  obtain ⟨k, n, s, kids⟩ := t
  by_cases h1 : k = 1
  ·subst h1; rw [okT_num] at h ⊢; exact h
  by_cases h2 : k = 2
  ·subst h2; rw [okT_var] at h ⊢; exact h
  rw [okT_zero (by simpa using h1) (by simpa using h2)] at h
  cases h
 | succ r ih =>
  intro t h
  obtain ⟨k, n, s, kids⟩ := t
  by_cases h1 : k = 1
  ·subst h1; rw [okT_num] at h ⊢; exact h
  by_cases h2 : k = 2
  ·subst h2; rw [okT_var] at h ⊢; exact h
  rw [okT_more (by simpa using h1) (by simpa using h2)] at h ⊢
  rw [Bool.and_eq_true] at h ⊢
  refine ⟨h.1, ?_⟩
  rw [List.all_eq_true] at h ⊢
  exact fun x hx => ih (h.2 x hx)
theorem okT_le {r r' : Nat} {t : Tm} (hle : r ≤ r') (h : okT r t = true) : okT r' t = true := by
 induction hle with
 | refl => exact h
 | step _ ih => exact okT_mono ih
theorem empty_name : ByteArray.empty.toList.isEmpty = true := by rw [Lib.toList_data]; rfl
theorem leafD_ok (code : List UInt8) (x : Int) (k : Cur) (r : Nat) : okT r (leafD code x k).1 = true := by
 by_cases h : x < 3
 ·rw [leafD_num h, okT_num]
  have hb := belowD_bd code (n := 8) (by decide) k
  have := pickI_in (fun z => inB z 0 1000000000 = true) (zs := tmNums) (x := (belowD code 8 k).1) (by decide) (by show _ < 8; omega)
  rw [this, empty_name]; rfl
 ·rw [leafD_var h, okT_var]
  have hb := belowD_bd code (n := 5) (by decide) k
  have := pickS_in (fun z => isNameL z.data.toList = true) (ss := tmNames) (x := (belowD code 5 k).1) (by decide) (by show _ < 5; omega)
  rw [this]; rfl
theorem okT_not {r : Nat} {t : Tm} (h : okT r t = true) : okT (r + 1) (.mk 8 0 ByteArray.empty [t]) = true := by
 rw [okT_more rfl rfl, empty_name]
 simp only [List.all_cons, List.all_nil, h]; rfl
theorem okT_two {r : Nat} {k : Int} {t u : Tm} (hk : k ∈ tmKinds) (h : okT r t = true) (h' : okT r u = true) : okT (r + 1) (.mk k 0 ByteArray.empty [t, u]) = true := by
 have hh : (k == 1) = false ∧ (k == 2) = false ∧ inB k 3 9 = true ∧ ((2 : Int) == manyK k) = true := by
  revert k hk; decide
 rw [okT_more hh.1 hh.2.1]
 have e : ((([t, u] : List Tm).length : Int) == manyK k) = true := hh.2.2.2
 rw [hh.2.2.1, e, empty_name]
 simp only [List.all_cons, List.all_nil, h, h']; rfl
theorem termD_ok (code : List UInt8) (d : Nat) : ∀ k, okT d (termD code d k).1 = true := by
 induction d with
 | zero => intro k; rw [termD_zero]; exact leafD_ok _ _ _ _
 | succ d ih =>
  intro k
  by_cases h6 : (belowD code 12 k).1 < 6
  ·rw [termD_leaf h6]; exact leafD_ok _ _ _ _
  by_cases h7 : (belowD code 12 k).1 = 6
  ·rw [termD_not h7]; exact okT_not (ih _)
  ·rw [termD_two (by omega)]
   have hb := belowD_bd code (n := 6) (by decide) (belowD code 12 k).2
   exact okT_two (pickI_mem (by show _ < 6; omega)) (ih _) (ih _)
theorem name_len {l : List UInt8} (h : isNameL l = true) : l.length ≤ 12 := by
 rcases Nat.lt_or_ge 12 l.length with h1 | h1
 ·have := not_name _ (word_long l h1)
  rw [this] at h; cases h
 ·exact h1
theorem right_shape {deep : Nat} {g : St} (h : rightG deep g = true) : shapeG g = true := by
 cases hs : shapeG g with
 | true => rfl
 | false => rw [rightG_shape hs] at h; cases h
theorem okT_kids {room : Nat} {k n : Int} {s : ByteArray} {kids : List Tm} (h1 : k ≠ 1) (h2 : k ≠ 2) (h : okT room (.mk k n s kids) = true) :
  ∃ r, room = r + 1 ∧ ((k = 8 ∧ ∃ x, kids = [x] ∧ okT r x = true) ∨ ((k = 3 ∨ k = 4 ∨ k = 5 ∨ k = 6 ∨ k = 7 ∨ k = 9) ∧ ∃ x y, kids = [x, y] ∧ okT r x = true ∧ okT r y = true)) := by
 have g1 : (k == 1) = false := beq_eq_false_iff_ne.2 h1
 have g2 : (k == 2) = false := beq_eq_false_iff_ne.2 h2
 cases room with
 | zero => rw [okT_zero g1 g2] at h; cases h
 | succ r =>
  rw [okT_more g1 g2] at h
  simp only [Bool.and_eq_true, beq_iff_eq] at h
  obtain ⟨⟨⟨⟨a1, a2⟩, a3⟩, a4⟩, a5⟩ := h
  have := inB_le a1
  refine ⟨r, rfl, ?_⟩
  by_cases e : k = 8
  ·subst e
   simp only [manyK, if_true] at a4
   match kids, a4 with
   | [x], _ => exact .inl ⟨rfl, x, rfl, by simpa using a5⟩
  ·rw [manyK, if_neg e] at a4
   match kids, a4 with
   | [x, y], _ => exact .inr ⟨by omega, x, y, rfl, by simpa using a5⟩
def stN : List ByteArray := [⟨#[120]⟩, ⟨#[121]⟩, ⟨#[122]⟩]
def loN : List ByteArray := [⟨#[97]⟩, ⟨#[98]⟩, ⟨#[109]⟩]
def prN : List ByteArray := [⟨#[112]⟩, ⟨#[113]⟩, ⟨#[114]⟩]
def wordS (code : List UInt8) (ns : List ByteArray) (kd : Int) (k : Cur) : St × Cur := (.mk kd (pickS ns (belowD code 3 k).1) zeroTm [] [], (belowD code 3 k).2)
def setS (code : List UInt8) (k : Cur) : St × Cur := (.mk 1 (pickS stN (belowD code 3 k).1) (termD code 2 (belowD code 3 k).2).1 [] [], (termD code 2 (belowD code 3 k).2).2)
def skipS : St := .mk 8 ByteArray.empty zeroTm [] []
def flatS (code : List UInt8) (x : Int) (k : Cur) : St × Cur :=
 if x < 4 then setS code k else if x < 6 then wordS code loN 6 k else if x < 8 then wordS code loN 7 k else if x = 8 then wordS code prN 4 k else if x = 9 then wordS code prN 5 k else (skipS, k)
def listS (code : List UInt8) (one : Cur → St × Cur) : Nat → Nat → List St → Cur → List St × Cur
 | 0, _, acc, k => (acc, (belowD code 4 k).2)
 | f + 1, i, acc, k => if (i : Int) < (belowD code 4 k).1 then listS code one f (i + 1) (acc ++ [(one (belowD code 4 k).2).1]) (one (belowD code 4 k).2).2 else (acc, (belowD code 4 k).2)
def lstS (code : List UInt8) (one : Cur → St × Cur) (k : Cur) : List St × Cur := listS code one 3 0 [] k
def whileS (code : List UInt8) (one : Cur → St × Cur) (k : Cur) : St × Cur := (.mk 3 ByteArray.empty (termD code 1 k).1 (lstS code one (termD code 1 k).2).1 [], (lstS code one (termD code 1 k).2).2)
def ifS (code : List UInt8) (one : Cur → St × Cur) (k : Cur) : St × Cur :=
 if (belowD code 2 (lstS code one (termD code 1 k).2).2).1 = 0 then
  (.mk 2 ByteArray.empty (termD code 1 k).1 (lstS code one (termD code 1 k).2).1 (lstS code one (belowD code 2 (lstS code one (termD code 1 k).2).2).2).1, (lstS code one (belowD code 2 (lstS code one (termD code 1 k).2).2).2).2)
 else (.mk 2 ByteArray.empty (termD code 1 k).1 (lstS code one (termD code 1 k).2).1 [], (belowD code 2 (lstS code one (termD code 1 k).2).2).2)
def stS (code : List UInt8) : Nat → Cur → St × Cur
 | 0, k => flatS code (if 11 ≤ (belowD code 14 k).1 then (belowD code 14 k).1 - 6 else (belowD code 14 k).1) (belowD code 14 k).2
 | d + 1, k =>
  if (belowD code 14 k).1 < 11 then flatS code (belowD code 14 k).1 (belowD code 14 k).2
  else if (belowD code 14 k).1 = 11 then whileS code (stS code d) (belowD code 14 k).2
  else ifS code (stS code d) (belowD code 14 k).2
theorem listS_stop {code : List UInt8} {one : Cur → St × Cur} {f i : Nat} {acc : List St} {k : Cur} (h : ¬ (i : Int) < (belowD code 4 k).1) : listS code one f i acc k = (acc, (belowD code 4 k).2) := by
 cases f with
 | zero => rw [listS]
 | succ f => rw [listS, if_neg h]
theorem listS_more {code : List UInt8} {one : Cur → St × Cur} {f i : Nat} {acc : List St} {k : Cur} (h : (i : Int) < (belowD code 4 k).1) : listS code one (f + 1) i acc k = listS code one f (i + 1) (acc ++ [(one (belowD code 4 k).2).1]) (one (belowD code 4 k).2).2 := by rw [listS, if_pos h]
theorem listS_all {code : List UInt8} {one : Cur → St × Cur} {P : St → Prop} (h : ∀ k, P (one k).1) (f : Nat) : ∀ i acc k, (∀ g ∈ acc, P g) → ∀ g ∈ (listS code one f i acc k).1, P g := by
 induction f with
 | zero => intro i acc k ha; rw [listS]; exact ha
 | succ f ih =>
  intro i acc k ha
  rw [listS]
  split
  ·refine ih _ _ _ fun g hg => ?_
   rcases List.mem_append.1 hg with hg | hg
   ·exact ha g hg
   ·rw [List.mem_singleton] at hg; rw [hg]; exact h _
  ·exact ha
theorem lstS_all {code : List UInt8} {one : Cur → St × Cur} {P : St → Prop} (h : ∀ k, P (one k).1) (k : Cur) : ∀ g ∈ (lstS code one k).1, P g := listS_all h 3 0 [] k (fun _ hg => by cases hg)
theorem listS_len {code : List UInt8} {one : Cur → St × Cur} (f : Nat) : ∀ i acc k, (listS code one f i acc k).1.length ≤ acc.length + f := by
 induction f with
 | zero => intro i acc k; rw [listS]; simp
 | succ f ih =>
  intro i acc k
  rw [listS]
  split
  ·have := ih (i + 1) (acc ++ [(one (belowD code 4 k).2).1]) (one (belowD code 4 k).2).2
   rw [List.length_append, List.length_cons, List.length_nil] at this
   omega
  ·show acc.length ≤ _; omega
theorem lstS_len {code : List UInt8} {one : Cur → St × Cur} (k : Cur) : (lstS code one k).1.length ≤ 3 := by unfold lstS; have := listS_len (code := code) (one := one) 3 0 [] k; simpa using this
theorem rightGs_all {deep : Nat} {l : List St} (h : ∀ g ∈ l, rightG deep g = true) : rightGs deep l = true := by
 induction l with
 | nil => rw [rightGs]
 | cons g r ih => rw [rightGs, h g (by simp), ih (fun x hx => h x (by simp [hx]))]; rfl
mutual
theorem rightG_le : (g : St) → ∀ {d d' : Nat}, d ≤ d' → rightG d g = true → rightG d' g = true
 | .mk k s t b e, d, d', h, hr => by
  have hs := right_shape hr
  cases hm : manyB k with
  | false => exact rightG_plain hs hm
  | true =>
   rw [rightG_many hs hm] at hr ⊢
   simp only [Bool.and_eq_true, decide_eq_true_eq] at hr ⊢
   exact ⟨⟨by omega, rightGs_le b (by omega) hr.1.2⟩, rightGs_le e (by omega) hr.2⟩
theorem rightGs_le : (l : List St) → ∀ {d d' : Nat}, d ≤ d' → rightGs d l = true → rightGs d' l = true
 | [], _, _, _, _ => by rw [rightGs]
 | g :: r, d, d', h, hr => by
  rw [rightGs, Bool.and_eq_true] at hr ⊢
  exact ⟨rightG_le g h hr.1, rightGs_le r h hr.2⟩
end
theorem set_right {s : ByteArray} {t : Tm} (hs : isNameL s.data.toList = true) (ht : okT 6 t = true) (deep : Nat) : rightG deep (.mk 1 s t [] []) = true := by
 refine rightG_plain ?_ rfl
 rw [shapeG, shapeB, if_pos rfl, hs, ht]; rfl
theorem word_right {k : Int} {s : ByteArray} (hk : k = 4 ∨ k = 5 ∨ k = 6 ∨ k = 7) (hs : isNameL s.data.toList = true) (deep : Nat) : rightG deep (.mk k s zeroTm [] []) = true := by
 refine rightG_plain ?_ (by rcases hk with rfl | rfl | rfl | rfl <;> rfl)
 rw [shapeG, shapeB, if_neg (by omega), if_neg (by omega), if_neg (by omega), if_pos hk, hs, sameB_yes rfl]; rfl
theorem skip_right (deep : Nat) : rightG deep skipS = true := by
 unfold skipS
 refine rightG_plain ?_ rfl
 rw [shapeG, shapeB, if_neg (by decide), if_neg (by decide), if_neg (by decide), if_neg (by decide), if_pos rfl, sameB_yes rfl, empty_name]; rfl
theorem while_right {t : Tm} {b : List St} {d : Nat} (ht : okT 6 t = true) (hb : rightGs d b = true) : rightG (d + 1) (.mk 3 ByteArray.empty t b []) = true := by
 have hs : shapeG (.mk 3 ByteArray.empty t b []) = true := by
  rw [shapeG, shapeB, if_neg (by decide), if_neg (by decide), if_pos rfl, empty_name, ht]; rfl
 rw [rightG_many hs rfl, Nat.add_sub_cancel, hb, rightGs, decide_eq_true (by omega)]; rfl
theorem if_right {t : Tm} {b e : List St} {d : Nat} (ht : okT 6 t = true) (hb : rightGs d b = true) (he : rightGs d e = true) : rightG (d + 1) (.mk 2 ByteArray.empty t b e) = true := by
 have hs : shapeG (.mk 2 ByteArray.empty t b e) = true := by
  rw [shapeG, shapeB, if_neg (by decide), if_pos rfl, empty_name, ht]; rfl
 rw [rightG_many hs rfl, Nat.add_sub_cancel, hb, he, decide_eq_true (by omega)]; rfl
theorem pick_name {ns : List ByteArray} (h : ∀ z ∈ ns, isNameL z.data.toList = true) (hl : ns.length = 3) (code : List UInt8) (k : Cur) : isNameL (pickS ns (belowD code 3 k).1).data.toList = true := by
 have hb := belowD_bd code (n := 3) (by decide) k
 exact pickS_in (fun z => isNameL z.data.toList = true) h (by omega)
theorem flatS_right (code : List UInt8) (x : Int) (k : Cur) (deep : Nat) : rightG deep (flatS code x k).1 = true := by
 unfold flatS setS wordS
 split
 ·exact set_right (pick_name (by decide) rfl code k) (okT_le (by decide) (termD_ok code 2 _)) deep
 split
 ·exact word_right (by omega) (pick_name (by decide) rfl code k) deep
 split
 ·exact word_right (by omega) (pick_name (by decide) rfl code k) deep
 split
 ·exact word_right (by omega) (pick_name (by decide) rfl code k) deep
 split
 ·exact word_right (by omega) (pick_name (by decide) rfl code k) deep
 ·exact skip_right deep
theorem stS_right (code : List UInt8) (d : Nat) : ∀ k, rightG d (stS code d k).1 = true := by
 induction d with
 | zero => intro k; rw [stS]; exact flatS_right _ _ _ _
 | succ d ih =>
  intro k
  have hl : ∀ k, rightGs d (lstS code (stS code d) k).1 = true := fun k => rightGs_all (lstS_all (P := fun g => rightG d g = true) ih k)
  rw [stS]
  split
  ·exact flatS_right _ _ _ _
  split
  ·exact while_right (okT_le (by decide) (termD_ok code 1 _)) (hl _)
  ·unfold ifS
   split
   ·exact if_right (okT_le (by decide) (termD_ok code 1 _)) (hl _) (hl _)
   ·exact if_right (okT_le (by decide) (termD_ok code 1 _)) (hl _) (by rw [rightGs])
theorem lstS_right (code : List UInt8) (d : Nat) (k : Cur) : rightGs d (lstS code (stS code d) k).1 = true := rightGs_all (lstS_all (P := fun g => rightG d g = true) (stS_right code d) k)
theorem okT_tot (r : Nat) : ∀ t, okT r t = true → totT t + 2 ≤ 14 * 2 ^ r := by
 have leaf : ∀ r k n s kids, (k = 1 ∨ k = 2) → okT r (.mk k n s kids) = true → totT (.mk k n s kids) ≤ 12 := by
  intro r k n s kids hk h
  rcases hk with rfl | rfl
  ·rw [okT_num] at h
   simp only [Bool.and_eq_true, beq_iff_eq] at h
   have e : kids = [] := List.eq_nil_of_length_eq_zero (by omega)
   rw [e, empty_of h.1.2, totT, totTs]; decide
  ·rw [okT_var] at h
   simp only [Bool.and_eq_true, beq_iff_eq] at h
   have e : kids = [] := List.eq_nil_of_length_eq_zero (by omega)
   have := name_len h.1.2
   rw [e, totT, totTs]
   have h2 : s.data.toList.length = s.size := rfl
   omega
 induction r with
 | zero =>
  intro t h
  obtain ⟨k, n, s, kids⟩ := t
  by_cases h12 : k = 1 ∨ k = 2
  ·have := leaf 0 k n s kids h12 h; omega
  ·rw [okT_zero (beq_eq_false_iff_ne.2 (by omega)) (beq_eq_false_iff_ne.2 (by omega))] at h; cases h
 | succ r ih =>
  intro t h
  obtain ⟨k, n, s, kids⟩ := t
  have hp : 2 ^ (r + 1) = 2 ^ r + 2 ^ r := by rw [Nat.pow_succ]; omega
  have hpos := Nat.two_pow_pos r
  by_cases h12 : k = 1 ∨ k = 2
  ·have := leaf (r + 1) k n s kids h12 h; omega
  have hse : s = ByteArray.empty := by
   rw [okT_more (beq_eq_false_iff_ne.2 (by omega)) (beq_eq_false_iff_ne.2 (by omega))] at h
   simp only [Bool.and_eq_true] at h
   exact empty_of h.1.1.2
  have hs0 : s.size = 0 := by rw [hse]; rfl
  obtain ⟨r', he, ⟨_, x, rfl, hx⟩ | ⟨_, x, y, rfl, hx, hy⟩⟩ := okT_kids (by omega) (by omega) h
  ·have : r' = r := by omega
   subst this
   have := ih x hx
   simp only [totT, totTs]; omega
  ·have : r' = r := by omega
   subst this
   have := ih x hx
   have := ih y hy
   simp only [totT, totTs]; omega
theorem shape_tot {k : Int} {s : ByteArray} {t : Tm} {b e : List St} (h : shapeG (.mk k s t b e) = true) : s.size ≤ 12 ∧ totT t ≤ 894 := by
 have nm : ∀ {s : ByteArray}, isNameL s.data.toList = true → s.size ≤ 12 := fun {s} hn => by
  have := name_len hn
  have h2 : s.data.toList.length = s.size := rfl
  omega
 have em : ∀ {s : ByteArray}, s.toList.isEmpty = true → s.size ≤ 12 := fun {s} hn => by rw [empty_of hn]; decide
 have ok : ∀ {t : Tm}, okT 6 t = true → totT t ≤ 894 := fun {t} ht => by have := okT_tot 6 t ht; omega
 have zr : ∀ {t : Tm}, sameB t zeroTm = true → totT t ≤ 894 := fun {t} ht => by rw [sameB_true ht]; unfold zeroTm; rw [totT, totTs]; decide
 rw [shapeG, shapeB] at h
 split at h
 ·simp only [Bool.and_eq_true] at h; exact ⟨nm h.1.1.1, ok h.1.1.2⟩
 split at h
 ·simp only [Bool.and_eq_true] at h; exact ⟨em h.1, ok h.2⟩
 split at h
 ·simp only [Bool.and_eq_true] at h; exact ⟨em h.1.1, ok h.1.2⟩
 split at h
 ·simp only [Bool.and_eq_true] at h; exact ⟨nm h.1.1.1, zr h.1.1.2⟩
 split at h
 ·simp only [Bool.and_eq_true] at h; exact ⟨em h.1.1.1, zr h.1.1.2⟩
 ·cases h
theorem snodess_zero {l : List St} (h : snodess l = 0) : l = [] := by
 cases l with
 | nil => rfl
 | cons g r => obtain ⟨k, s, t, b, e⟩ := g; rw [snodess, snodes] at h; omega
theorem plain_kids {k : Int} {s : ByteArray} {t : Tm} {b e : List St} (h : shapeG (.mk k s t b e) = true) (hm : manyB k = false) : b = [] ∧ e = [] := by
 have := plain_one h hm
 rw [snodes] at this
 exact ⟨snodess_zero (by omega), snodess_zero (by omega)⟩
mutual
theorem right_tot : (g : St) → ∀ {d : Nat}, rightG d g = true → totG g + 1 ≤ 1000 * snodes g
 | .mk k s t b e, d, hr => by
  have hs := right_shape hr
  obtain ⟨h1, h2⟩ := shape_tot hs
  rw [totG, snodes]
  cases hm : manyB k with
  | false =>
   obtain ⟨rfl, rfl⟩ := plain_kids hs hm
   simp only [totGs, snodess]; omega
  | true =>
   rw [rightG_many hs hm] at hr
   simp only [Bool.and_eq_true] at hr
   have := rights_tot b hr.1.2
   have := rights_tot e hr.2
   omega
theorem rights_tot : (l : List St) → ∀ {d : Nat}, rightGs d l = true → totGs l ≤ 1000 * snodess l
 | [], _, _ => by simp [totGs, snodess]
 | g :: r, d, hr => by
  rw [rightGs, Bool.and_eq_true] at hr
  have := right_tot g hr.1
  have := rights_tot r hr.2
  rw [totGs, snodess]; omega
end
def nmD : List ByteArray := [⟨#[109, 97, 105, 110]⟩, ⟨#[112]⟩, ⟨#[113]⟩, ⟨#[114]⟩]
def glD : List ByteArray := [⟨#[120]⟩, ⟨#[121]⟩, ⟨#[122]⟩, ⟨#[117]⟩]
mutual
def fixG (code : List UInt8) (ns : List ByteArray) : St → Cur → St × Cur
 | .mk k s t b e, c =>
  (.mk k (if k = 4 ∨ k = 5 then pickS ns (belowD code ns.length c).1 else s) t (fixGs code ns b (if k = 4 ∨ k = 5 then (belowD code ns.length c).2 else c)).1 (fixGs code ns e (fixGs code ns b (if k = 4 ∨ k = 5 then (belowD code ns.length c).2 else c)).2).1,
   (fixGs code ns e (fixGs code ns b (if k = 4 ∨ k = 5 then (belowD code ns.length c).2 else c)).2).2)
def fixGs (code : List UInt8) (ns : List ByteArray) : List St → Cur → List St × Cur
 | [], c => ([], c)
 | g :: r, c => ((fixG code ns g c).1 :: (fixGs code ns r (fixG code ns g c).2).1, (fixGs code ns r (fixG code ns g c).2).2)
end
theorem fixG_word (code : List UInt8) (ns : List ByteArray) {k : Int} (h : k = 4 ∨ k = 5) (s : ByteArray) (t : Tm) (b e : List St) (c : Cur) :
  fixG code ns (.mk k s t b e) c = (.mk k (pickS ns (belowD code ns.length c).1) t (fixGs code ns b (belowD code ns.length c).2).1 (fixGs code ns e (fixGs code ns b (belowD code ns.length c).2).2).1, (fixGs code ns e (fixGs code ns b (belowD code ns.length c).2).2).2) := by
 rw [fixG]; simp only [if_pos h]
theorem fixG_other (code : List UInt8) (ns : List ByteArray) {k : Int} (h : ¬ (k = 4 ∨ k = 5)) (s : ByteArray) (t : Tm) (b e : List St) (c : Cur) :
  fixG code ns (.mk k s t b e) c = (.mk k s t (fixGs code ns b c).1 (fixGs code ns e (fixGs code ns b c).2).1, (fixGs code ns e (fixGs code ns b c).2).2) := by
 rw [fixG]; simp only [if_neg h]
theorem fixGs_append (code : List UInt8) (ns : List ByteArray) (l r : List St) (c : Cur) : fixGs code ns (l ++ r) c = ((fixGs code ns l c).1 ++ (fixGs code ns r (fixGs code ns l c).2).1, (fixGs code ns r (fixGs code ns l c).2).2) := by
 induction l generalizing c with
 | nil => simp [fixGs]
 | cons g l ih => rw [List.cons_append, fixGs, fixGs, ih]; rfl
theorem fixGs_len (code : List UInt8) (ns : List ByteArray) (l : List St) (c : Cur) : (fixGs code ns l c).1.length = l.length := by
 induction l generalizing c with
 | nil => simp [fixGs]
 | cons g l ih => rw [fixGs]; simp [ih]
theorem fixGs_take (code : List UInt8) (ns : List ByteArray) (l : List St) (c : Cur) (j : Nat) (h : j < l.length) :
  fixGs code ns (l.take (j + 1)) c = ((fixGs code ns (l.take j) c).1 ++ [(fixG code ns l[j] (fixGs code ns (l.take j) c).2).1], (fixG code ns l[j] (fixGs code ns (l.take j) c).2).2) := by
 have e : l.take (j + 1) = l.take j ++ [l[j]] := List.take_succ_eq_append_getElem h
 rw [e, fixGs_append]; simp [fixGs]
def mixF (code : List UInt8) (ns : List ByteArray) (l : List St) (c : Cur) (j : Nat) : List St := (fixGs code ns (l.take j) c).1 ++ l.drop j
theorem mixF_zero (code : List UInt8) (ns : List ByteArray) (l : List St) (c : Cur) : mixF code ns l c 0 = l := by simp [mixF, fixGs]
theorem mixF_all (code : List UInt8) (ns : List ByteArray) (l : List St) (c : Cur) {j : Nat} (h : l.length ≤ j) : mixF code ns l c j = (fixGs code ns l c).1 := by
 unfold mixF; rw [List.take_of_length_le h, List.drop_of_length_le h, List.append_nil]
theorem mixF_len (code : List UInt8) (ns : List ByteArray) (l : List St) (c : Cur) {j : Nat} (h : j ≤ l.length) : (mixF code ns l c j).length = l.length := by
 unfold mixF; rw [List.length_append, fixGs_len, List.length_take, List.length_drop]; omega
theorem mixF_get (code : List UInt8) (ns : List ByteArray) (l : List St) (c : Cur) {j : Nat} (h : j < l.length) (h' : j < (mixF code ns l c j).length) : (mixF code ns l c j)[j] = l[j] := by
 have h1 : (fixGs code ns (l.take j) c).1.length = j := by rw [fixGs_len, List.length_take]; omega
 unfold mixF at *
 rw [List.getElem_append_right (by omega), List.getElem_drop]
 congr 1; omega
theorem mixF_set (code : List UInt8) (ns : List ByteArray) (l : List St) (c : Cur) {j : Nat} (h : j < l.length) : (mixF code ns l c j).set j (fixG code ns l[j] (fixGs code ns (l.take j) c).2).1 = mixF code ns l c (j + 1) := by
 have h1 : (fixGs code ns (l.take j) c).1.length = j := by rw [fixGs_len, List.length_take]; omega
 unfold mixF
 rw [fixGs_take _ _ _ _ _ h, List.set_append_right _ _ (by omega), h1, Nat.sub_self]
 have e : l.drop j = l[j] :: l.drop (j + 1) := List.drop_eq_getElem_cons h
 rw [e, List.set_cons_zero]
 simp
def lockS (s : ByteArray) : St := .mk 6 s zeroTm [] []
def unlockS (s : ByteArray) : St := .mk 7 s zeroTm [] []
def spawnS (s : ByteArray) : St := .mk 5 s zeroTm [] []
def guardS (code : List UInt8) (l : List St) (k : Cur) : List St × Cur :=
 if pickS loN (belowD code 3 k).1 = pickS loN (belowD code 3 (belowD code 3 k).2).1 then
  ([lockS (pickS loN (belowD code 3 k).1)] ++ l ++ [unlockS (pickS loN (belowD code 3 k).1)], (belowD code 3 (belowD code 3 k).2).2)
 else if (belowD code 2 (belowD code 3 (belowD code 3 k).2).2).1 = 0 then
  ([lockS (pickS loN (belowD code 3 k).1)] ++ [lockS (pickS loN (belowD code 3 (belowD code 3 k).2).1)] ++ l ++ [unlockS (pickS loN (belowD code 3 k).1)], (belowD code 2 (belowD code 3 (belowD code 3 k).2).2).2)
 else ([lockS (pickS loN (belowD code 3 k).1)] ++ l ++ [unlockS (pickS loN (belowD code 3 k).1)], (belowD code 2 (belowD code 3 (belowD code 3 k).2).2).2)
def twoS (code : List UInt8) (k : Cur) : List St × Cur := ((lstS code (stS code 2) k).1 ++ (lstS code (stS code 1) (lstS code (stS code 2) k).2).1, (lstS code (stS code 1) (lstS code (stS code 2) k).2).2)
def rawS (l : List St) : List St := if snodess l ≤ 50 then l else [skipS]
def grdS (code : List UInt8) (l : List St) (k : Cur) : List St × Cur := if (belowD code 2 k).1 = 0 then guardS code l (belowD code 2 k).2 else (l, (belowD code 2 k).2)
def spnS (code : List UInt8) (ns : List ByteArray) (i : Nat) (l : List St) (k : Cur) : List St × Cur :=
 if i = 0 then (if (belowD code 2 k).1 = 0 then ([spawnS (ns[1]?.getD ByteArray.empty)] ++ l, (belowD code 2 k).2) else (l, (belowD code 2 k).2)) else (l, k)
def bdyD (code : List UInt8) (ns : List ByteArray) (i : Nat) (k : Cur) : List St × Cur :=
 fixGs code (ns.drop 1) (spnS code ns i (grdS code (rawS (twoS code k).1) (twoS code k).2).1 (grdS code (rawS (twoS code k).1) (twoS code k).2).2).1 (spnS code ns i (grdS code (rawS (twoS code k).1) (twoS code k).2).1 (grdS code (rawS (twoS code k).1) (twoS code k).2).2).2
def prsD (code : List UInt8) (ns : List ByteArray) : Nat → List Pr → Cur → List Pr × Cur
 | 0, acc, k => (acc, k)
 | f + 1, acc, k => prsD code ns f (acc ++ [⟨ns[acc.length]?.getD ByteArray.empty, (bdyD code ns acc.length k).1⟩]) (bdyD code ns acc.length k).2
def nsD (x : Int) : List ByteArray := nmD.take (2 + x).toNat
def pgD (code : List UInt8) (k : Cur) : Pg × Cur :=
 (⟨glD, loN, (prsD code (nsD (belowD code 3 k).1) (nsD (belowD code 3 k).1).length [] (belowD code 3 k).2).1⟩, (prsD code (nsD (belowD code 3 k).1) (nsD (belowD code 3 k).1).length [] (belowD code 3 k).2).2)
def drawnP (code : List UInt8) : Pg := (pgD code (curNew code)).1
end Go.Proofs.YtnmblfonmfjoeaaGreatDoor
