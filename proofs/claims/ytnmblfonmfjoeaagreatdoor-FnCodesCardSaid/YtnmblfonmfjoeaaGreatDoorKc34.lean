/- Lemmas for the row. -/
import Derived.Test.YtnmblfonmfjoeaaGreatDoorKc28
namespace Go.Proofs.YtnmblfonmfjoeaaGreatDoor
open Go.RowKit
set_option linter.unusedVariables false
mutual
def knG (gl lo pr : List ByteArray) : St → Prop
 | .mk k s t b e => (k = 1 → s ∈ gl) ∧ (k = 6 ∨ k = 7 → s ∈ lo) ∧ (k = 4 ∨ k = 5 → s ∈ pr) ∧ (∀ x ∈ readsR t, x ∈ gl) ∧ knGs gl lo pr b ∧ knGs gl lo pr e
def knGs (gl lo pr : List ByteArray) : List St → Prop
 | [] => True
 | g :: r => knG gl lo pr g ∧ knGs gl lo pr r
end
theorem readK_known {gl acc reads : List ByteArray} (h : ∀ x ∈ reads, x ∈ gl) : readK gl acc reads = acc := by
 unfold readK
 induction reads generalizing acc with
 | nil => rfl
 | cons x r ih =>
  rw [List.foldl_cons, addUnk_known (has_iff.2 (h x (by simp)))]
  exact ih fun y hy => h y (by simp [hy])
theorem headK_known {gl lo pr : List ByteArray} {k : Int} {acc : List ByteArray} {s : ByteArray} (h1 : k = 1 → s ∈ gl) (h2 : k = 6 ∨ k = 7 → s ∈ lo) (h3 : k = 4 ∨ k = 5 → s ∈ pr) : headK gl lo pr k acc s = acc := by
 unfold headK
 split
 ·exact addUnk_known (has_iff.2 (h1 ‹_›))
 split
 ·exact addUnk_known (has_iff.2 (h2 ‹_›))
 split
 ·exact addUnk_known (has_iff.2 (h3 ‹_›))
 ·rfl
mutual
theorem unkG_known {gl lo pr acc : List ByteArray} : (g : St) → knG gl lo pr g → unkG gl lo pr acc g = acc
 | .mk k s t b e, h => by
  rw [knG] at h
  obtain ⟨h1, h2, h3, h4, h5, h6⟩ := h
  rw [unkG_mk, headK_known h1 h2 h3, readK_known h4, unkGs_known b h5, unkGs_known e h6]
theorem unkGs_known {gl lo pr acc : List ByteArray} : (l : List St) → knGs gl lo pr l → unkGs gl lo pr acc l = acc
 | [], _ => by rw [unkGs]
 | g :: r, h => by
  rw [knGs] at h
  rw [unkGs, unkG_known g h.1, unkGs_known r h.2]
end
theorem unkP_known {gl lo pr : List ByteArray} {l : List Pr} (h : ∀ q ∈ l, knGs gl lo pr q.body) : unkP gl lo pr l = [] := by
 unfold unkP
 have : ∀ acc : List ByteArray, l.foldl (fun acc q => unkGs gl lo pr acc q.body) acc = acc := by
  induction l with
  | nil => intro acc; rfl
  | cons q r ih =>
   intro acc
   rw [List.foldl_cons, unkGs_known _ (h q (by simp))]
   exact ih (fun x hx => h x (by simp [hx])) acc
 exact this []
mutual
def namT (ns : List ByteArray) : Tm → Prop
 | .mk k _ s kids => (k = 2 → s ∈ ns) ∧ namTs ns kids
def namTs (ns : List ByteArray) : List Tm → Prop
 | [] => True
 | t :: r => namT ns t ∧ namTs ns r
end
mutual
theorem readsT_nam {ns acc : List ByteArray} (ha : ∀ x ∈ acc, x ∈ ns) : (t : Tm) → namT ns t → ∀ x ∈ readsT acc t, x ∈ ns
 | .mk k n s kids, h => by
  rw [namT] at h
  rw [readsT]
  split
  ·intro x hx
   unfold addOnceP at hx
   split at hx
   ·exact ha x hx
   ·rcases List.mem_append.1 hx with hx | hx
    ·exact ha x hx
    ·rw [List.mem_singleton.1 hx]; exact h.1 ‹_›
  ·exact readsTs_nam ha kids h.2
theorem readsTs_nam {ns acc : List ByteArray} (ha : ∀ x ∈ acc, x ∈ ns) : (l : List Tm) → namTs ns l → ∀ x ∈ readsTs acc l, x ∈ ns
 | [], _ => by rw [readsTs]; exact ha
 | t :: r, h => by
  rw [namTs] at h
  rw [readsTs]
  exact readsTs_nam (readsT_nam ha t h.1) r h.2
end
theorem readsR_nam {ns : List ByteArray} {t : Tm} (h : namT ns t) : ∀ x ∈ readsR t, x ∈ ns := by
 unfold readsR
 split
 ·exact readsT_nam (fun x hx => by cases hx) t h
 ·intro x hx; cases hx
theorem leafD_nam (code : List UInt8) (x : Int) (k : Cur) : namT glD (leafD code x k).1 := by
 by_cases h : x < 3
 ·rw [leafD_num h, namT, namTs]; exact ⟨fun h => absurd h (by decide), trivial⟩
 ·rw [leafD_var h, namT, namTs]
  have hb := belowD_bd code (n := 5) (by decide) k
  exact ⟨fun _ => has_iff.1 (pickS_in (fun z => hasS glD z = true) (ss := tmNames) (by decide) (by show _ < 5; omega)), trivial⟩
theorem termD_nam (code : List UInt8) (d : Nat) : ∀ k, namT glD (termD code d k).1 := by
 induction d with
 | zero => intro k; rw [termD_zero]; exact leafD_nam _ _ _
 | succ d ih =>
  intro k
  by_cases h6 : (belowD code 12 k).1 < 6
  ·rw [termD_leaf h6]; exact leafD_nam _ _ _
  by_cases h7 : (belowD code 12 k).1 = 6
  ·rw [termD_not h7, namT, namTs, namTs]; exact ⟨fun h => absurd h (by decide), ih _, trivial⟩
  ·rw [termD_two (by omega), namT, namTs, namTs, namTs]
   have hb := belowD_bd code (n := 6) (by decide) (belowD code 12 k).2
   have hk : pickI tmKinds (belowD code 6 (belowD code 12 k).2).1 ≠ 2 := pickI_in (fun z => z ≠ 2) (zs := tmKinds) (by decide) (by show _ < 6; omega)
   exact ⟨fun h => absurd h hk, ih _, ih _, trivial⟩
mutual
def knA (gl lo : List ByteArray) : St → Prop
 | .mk k s t b e => (k = 1 → s ∈ gl) ∧ (k = 6 ∨ k = 7 → s ∈ lo) ∧ (∀ x ∈ readsR t, x ∈ gl) ∧ knAs gl lo b ∧ knAs gl lo e
def knAs (gl lo : List ByteArray) : List St → Prop
 | [] => True
 | g :: r => knA gl lo g ∧ knAs gl lo r
end
theorem knAs_all {gl lo : List ByteArray} {l : List St} (h : ∀ g ∈ l, knA gl lo g) : knAs gl lo l := by
 induction l with
 | nil => rw [knAs]; trivial
 | cons g r ih => rw [knAs]; exact ⟨h g (by simp), ih fun x hx => h x (by simp [hx])⟩
theorem knAs_append {gl lo : List ByteArray} {l r : List St} (h : knAs gl lo l) (h' : knAs gl lo r) : knAs gl lo (l ++ r) := by
 induction l with
 | nil => exact h'
 | cons g l ih => rw [knAs] at h; rw [List.cons_append, knAs]; exact ⟨h.1, ih h.2⟩
mutual
theorem knG_mono {gl lo pr pr' : List ByteArray} (hp : ∀ s ∈ pr, s ∈ pr') : (g : St) → knG gl lo pr g → knG gl lo pr' g
 | .mk k s t b e, h => by
  rw [knG] at h ⊢
  exact ⟨h.1, h.2.1, fun hk => hp _ (h.2.2.1 hk), h.2.2.2.1, knGs_mono hp b h.2.2.2.2.1, knGs_mono hp e h.2.2.2.2.2⟩
theorem knGs_mono {gl lo pr pr' : List ByteArray} (hp : ∀ s ∈ pr, s ∈ pr') : (l : List St) → knGs gl lo pr l → knGs gl lo pr' l
 | [], _ => by rw [knGs]; trivial
 | g :: r, h => by
  rw [knGs] at h ⊢
  exact ⟨knG_mono hp g h.1, knGs_mono hp r h.2⟩
end
theorem zero_reads {gl : List ByteArray} : ∀ x ∈ readsR zeroTm, x ∈ gl := by rw [readsR_zero]; intro x hx; cases hx
theorem word_knA {k : Int} {s : ByteArray} (h : k = 6 ∨ k = 7 → s ∈ loN) (h1 : k ≠ 1) : knA glD loN (.mk k s zeroTm [] []) := by
 rw [knA, knAs]
 exact ⟨fun e => absurd e h1, h, zero_reads, trivial, trivial⟩
theorem flatS_knA (code : List UInt8) (x : Int) (k : Cur) : knA glD loN (flatS code x k).1 := by
 have hb := belowD_bd code (n := 3) (by decide) k
 unfold flatS setS wordS
 split
 ·rw [knA, knAs]
  exact ⟨fun _ => has_iff.1 (pickS_in (fun z => hasS glD z = true) (ss := stN) (by decide) (by show _ < 3; omega)), fun h => absurd h (by decide), readsR_nam (termD_nam code 2 _), trivial, trivial⟩
 split
 ·exact word_knA (fun _ => pickS_mem (by show _ < 3; omega)) (by decide)
 split
 ·exact word_knA (fun _ => pickS_mem (by show _ < 3; omega)) (by decide)
 split
 ·exact word_knA (fun h => absurd h (by decide)) (by decide)
 split
 ·exact word_knA (fun h => absurd h (by decide)) (by decide)
 ·exact word_knA (fun h => absurd h (by decide)) (by decide)
theorem stS_knA (code : List UInt8) (d : Nat) : ∀ k, knA glD loN (stS code d k).1 := by
 induction d with
 | zero => intro k; rw [stS]; exact flatS_knA _ _ _
 | succ d ih =>
  intro k
  have hl : ∀ k, knAs glD loN (lstS code (stS code d) k).1 := fun k => knAs_all (lstS_all (P := fun g => knA glD loN g) ih k)
  rw [stS]
  split
  ·exact flatS_knA _ _ _
  split
  ·unfold whileS; rw [knA]
   exact ⟨fun h => absurd h (by decide), fun h => absurd h (by decide), readsR_nam (termD_nam code 1 _), hl _, by rw [knAs]; trivial⟩
  ·unfold ifS
   split
   ·rw [knA]
    exact ⟨fun h => absurd h (by decide), fun h => absurd h (by decide), readsR_nam (termD_nam code 1 _), hl _, hl _⟩
   ·rw [knA]
    exact ⟨fun h => absurd h (by decide), fun h => absurd h (by decide), readsR_nam (termD_nam code 1 _), hl _, by rw [knAs]; trivial⟩
structure NmsOk (ns : List ByteArray) : Prop where
 pos : 0 < ns.length
 few : ns.length ≤ 200
 ok : ∀ s ∈ ns, isNameL s.data.toList = true
theorem NmsOk.pick {ns : List ByteArray} (h : NmsOk ns) (code : List UInt8) (k : Cur) : pickS ns (belowD code (ns.length : Int) k).1 ∈ ns := by
 have h1 := h.pos
 have h2 := h.few
 have hb := belowD_bd code (n := (ns.length : Int)) (by omega) k
 exact pickS_mem (by omega)
mutual
theorem fixG_nodes (code : List UInt8) (ns : List ByteArray) : (g : St) → ∀ c, snodes (fixG code ns g c).1 = snodes g
 | .mk k s t b e, c => by rw [fixG]; simp only [snodes]; rw [fixGs_nodes code ns b, fixGs_nodes code ns e]
theorem fixGs_nodes (code : List UInt8) (ns : List ByteArray) : (l : List St) → ∀ c, snodess (fixGs code ns l c).1 = snodess l
 | [], c => by rw [fixGs]
 | g :: r, c => by rw [fixGs]; simp only [snodess]; rw [fixG_nodes code ns g, fixGs_nodes code ns r]
end
theorem fix_shape {code : List UInt8} {ns : List ByteArray} (hn : NmsOk ns) {k : Int} {s : ByteArray} {t : Tm} {b e b' e' : List St} {c : Cur} (hb : b'.length = b.length) (he : e'.length = e.length) (h : shapeG (.mk k s t b e) = true) : shapeG (.mk k (if k = 4 ∨ k = 5 then pickS ns (belowD code (ns.length : Int) c).1 else s) t b' e') = true := by
 simp only [shapeG, hb, he] at h ⊢
 by_cases hk : k = 4 ∨ k = 5
 ·rw [if_pos hk, hn.ok _ (hn.pick code c)]
  unfold shapeB at h ⊢
  rw [if_neg (by omega), if_neg (by omega), if_neg (by omega), if_pos (by omega)] at h ⊢
  simp only [Bool.and_eq_true] at h ⊢
  exact ⟨⟨⟨trivial, h.1.1.2⟩, h.1.2⟩, h.2⟩
 ·rw [if_neg hk]; exact h
mutual
theorem fixG_right {code : List UInt8} {ns : List ByteArray} (hn : NmsOk ns) : (g : St) → ∀ {d : Nat} {c : Cur}, rightG d g = true → rightG d (fixG code ns g c).1 = true
 | .mk k s t b e, d, c, h => by
  have hs := right_shape h
  rw [fixG]
  have hsh := fix_shape (code := code) hn (c := c) (fixGs_len code ns b (if k = 4 ∨ k = 5 then (belowD code ns.length c).2 else c)) (fixGs_len code ns e (fixGs code ns b (if k = 4 ∨ k = 5 then (belowD code ns.length c).2 else c)).2) hs
  cases hm : manyB k with
  | false => exact rightG_plain hsh hm
  | true =>
   rw [rightG_many hs hm] at h
   show rightG d (.mk k _ t _ _) = true
   rw [rightG_many hsh hm]
   simp only [Bool.and_eq_true] at h ⊢
   exact ⟨⟨h.1.1, fixGs_right hn b h.1.2⟩, fixGs_right hn e h.2⟩
theorem fixGs_right {code : List UInt8} {ns : List ByteArray} (hn : NmsOk ns) : (l : List St) → ∀ {d : Nat} {c : Cur}, rightGs d l = true → rightGs d (fixGs code ns l c).1 = true
 | [], d, c, _ => by rw [fixGs, rightGs]
 | g :: r, d, c, h => by
  rw [rightGs, Bool.and_eq_true] at h
  rw [fixGs]
  show rightGs d (_ :: _) = true
  rw [rightGs, Bool.and_eq_true]
  exact ⟨fixG_right hn g h.1, fixGs_right hn r h.2⟩
end
mutual
theorem fixG_kn {code : List UInt8} {ns gl lo : List ByteArray} (hn : NmsOk ns) : (g : St) → ∀ {c : Cur}, knA gl lo g → knG gl lo ns (fixG code ns g c).1
 | .mk k s t b e, c, h => by
  rw [knA] at h
  rw [fixG]
  show knG gl lo ns (.mk k _ t _ _)
  rw [knG]
  refine ⟨fun hk => ?_, fun hk => ?_, fun hk => ?_, h.2.2.1, fixGs_kn hn b h.2.2.2.1, fixGs_kn hn e h.2.2.2.2⟩
  ·rw [if_neg (by omega)]; exact h.1 hk
  ·rw [if_neg (by omega)]; exact h.2.1 hk
  ·rw [if_pos hk]; exact hn.pick code c
theorem fixGs_kn {code : List UInt8} {ns gl lo : List ByteArray} (hn : NmsOk ns) : (l : List St) → ∀ {c : Cur}, knAs gl lo l → knGs gl lo ns (fixGs code ns l c).1
 | [], c, _ => by rw [fixGs, knGs]; trivial
 | g :: r, c, h => by
  rw [knAs] at h
  rw [fixGs]
  show knGs gl lo ns (_ :: _)
  rw [knGs]
  exact ⟨fixG_kn hn g h.1, fixGs_kn hn r h.2⟩
end
structure GoodL (n : Nat) (l : List St) : Prop where
 right : rightGs 6 l = true
 few : snodess l ≤ n
 kn : knAs glD loN l
theorem GoodL.app {n m : Nat} {l r : List St} (h : GoodL n l) (h' : GoodL m r) : GoodL (n + m) (l ++ r) :=
 ⟨by rw [rightGs_append, h.right, h'.right]; rfl, by rw [snodess_append]; have := h.few; have := h'.few; omega, knAs_append h.kn h'.kn⟩
theorem good_word {k : Int} {s : ByteArray} (hk : k = 5 ∨ ((k = 6 ∨ k = 7) ∧ s ∈ loN)) (hs : isNameL s.data.toList = true) : GoodL 1 [.mk k s zeroTm [] []] := by
 refine ⟨?_, by simp [snodess, snodes], ?_⟩
 ·rw [rightGs, rightGs, word_right (by omega) hs]; rfl
 ·rw [knAs, knAs]
  have hm : k = 6 ∨ k = 7 → s ∈ loN := fun h => by
   rcases hk with hk | hk
   ·omega
   ·exact hk.2
  exact ⟨word_knA hm (by omega), trivial⟩
theorem good_raw (code : List UInt8) (k : Cur) : GoodL 50 (rawS (twoS code k).1) := by
 unfold rawS
 split
 ·rename_i h
  refine ⟨?_, h, ?_⟩
  ·unfold twoS
   rw [rightGs_append, rightGs_le _ (by decide) (lstS_right code 2 _), rightGs_le _ (by decide) (lstS_right code 1 _)]; rfl
  ·unfold twoS
   exact knAs_append (knAs_all (lstS_all (P := fun g => knA glD loN g) (stS_knA code 2) _)) (knAs_all (lstS_all (P := fun g => knA glD loN g) (stS_knA code 1) _))
 ·refine ⟨by rw [rightGs, rightGs, skip_right]; rfl, by unfold skipS; simp [snodess, snodes], ?_⟩
  rw [knAs, knAs]; unfold skipS
  exact ⟨word_knA (fun h => absurd h (by decide)) (by decide), trivial⟩
theorem pick_lock (code : List UInt8) (k : Cur) : pickS loN (belowD code 3 k).1 ∈ loN := by
 have hb := belowD_bd code (n := 3) (by decide) k
 exact pickS_mem (by show _ < 3; omega)
theorem lock_name : ∀ s ∈ loN, isNameL s.data.toList = true := by decide
theorem good_guard (code : List UInt8) {l : List St} {k : Cur} (h : GoodL 50 l) : GoodL 53 (guardS code l k).1 := by
 have ha := pick_lock code k
 have hb := pick_lock code (belowD code 3 k).2
 have l1 : GoodL 1 [lockS (pickS loN (belowD code 3 k).1)] := good_word (.inr ⟨.inl rfl, ha⟩) (lock_name _ ha)
 have l2 : GoodL 1 [lockS (pickS loN (belowD code 3 (belowD code 3 k).2).1)] := good_word (.inr ⟨.inl rfl, hb⟩) (lock_name _ hb)
 have u1 : GoodL 1 [unlockS (pickS loN (belowD code 3 k).1)] := good_word (.inr ⟨.inr rfl, ha⟩) (lock_name _ ha)
 unfold guardS
 split
 ·have := (l1.app h).app u1; exact ⟨this.right, Nat.le_trans this.few (by decide), this.kn⟩
 split
 ·exact ((l1.app l2).app h).app u1
 ·have := (l1.app h).app u1; exact ⟨this.right, Nat.le_trans this.few (by decide), this.kn⟩
theorem good_grd (code : List UInt8) {l : List St} {k : Cur} (h : GoodL 50 l) : GoodL 53 (grdS code l k).1 := by
 unfold grdS
 split
 ·exact good_guard code h
 ·exact ⟨h.right, Nat.le_trans h.few (by decide), h.kn⟩
theorem good_spn (code : List UInt8) {ns : List ByteArray} {i : Nat} {l : List St} {k : Cur} (hn : isNameL (ns[1]?.getD ByteArray.empty).data.toList = true) (h : GoodL 53 l) : GoodL 54 (spnS code ns i l k).1 := by
 unfold spnS
 split
 ·split
  ·exact (good_word (.inl rfl) hn).app h
  ·exact ⟨h.right, Nat.le_trans h.few (by decide), h.kn⟩
 ·exact ⟨h.right, Nat.le_trans h.few (by decide), h.kn⟩
structure GoodP (pr : List ByteArray) (q : Pr) : Prop where
 name : isNameL q.name.data.toList = true
 right : rightGs 6 q.body = true
 few : snodess q.body ≤ 54
 kn : knGs glD loN pr q.body
theorem nsD_ok {x : Int} (h0 : 0 ≤ x) (h1 : x < 3) : NmsOk ((nsD x).drop 1) ∧ (∀ s ∈ nsD x, isNameL s.data.toList = true) ∧ isNameL ((nsD x)[1]?.getD ByteArray.empty).data.toList = true ∧ 2 ≤ (nsD x).length := by
 have hx : x = 0 ∨ x = 1 ∨ x = 2 := by omega
 rcases hx with rfl | rfl | rfl
 ·exact ⟨⟨by decide, by decide, by decide⟩, by decide, by decide, by decide⟩
 ·exact ⟨⟨by decide, by decide, by decide⟩, by decide, by decide, by decide⟩
 ·exact ⟨⟨by decide, by decide, by decide⟩, by decide, by decide, by decide⟩
theorem good_bdy (code : List UInt8) {ns : List ByteArray} (h1 : NmsOk (ns.drop 1)) (h2 : isNameL (ns[1]?.getD ByteArray.empty).data.toList = true) (i : Nat) (k : Cur) : rightGs 6 (bdyD code ns i k).1 = true ∧ snodess (bdyD code ns i k).1 ≤ 54 ∧ knGs glD loN (ns.drop 1) (bdyD code ns i k).1 := by
 have hg := good_spn code (i := i) (k := (grdS code (rawS (twoS code k).1) (twoS code k).2).2) h2 (good_grd code (k := (twoS code k).2) (good_raw code k))
 unfold bdyD
 exact ⟨fixGs_right h1 _ hg.right, by rw [fixGs_nodes]; exact hg.few, fixGs_kn h1 _ hg.kn⟩
theorem prsD_good (code : List UInt8) {ns : List ByteArray} (h1 : NmsOk (ns.drop 1)) (h2 : isNameL (ns[1]?.getD ByteArray.empty).data.toList = true) (h3 : ∀ s ∈ ns, isNameL s.data.toList = true) (f : Nat) : ∀ (acc : List Pr) (k : Cur), acc.length + f = ns.length → pnames acc = ns.take acc.length → (∀ q ∈ acc, GoodP (ns.drop 1) q) →
  pnames (prsD code ns f acc k).1 = ns ∧ ∀ q ∈ (prsD code ns f acc k).1, GoodP (ns.drop 1) q := by
 induction f with
 | zero =>
  intro acc k hl hp hq
  rw [prsD]
  refine ⟨?_, hq⟩
  show pnames acc = ns
  rw [hp, List.take_of_length_le (by omega)]
 | succ f ih =>
  intro acc k hl hp hq
  rw [prsD]
  have hlt : acc.length < ns.length := by omega
  have e : ns[acc.length]?.getD ByteArray.empty = ns[acc.length] := by rw [List.getElem?_eq_getElem hlt]; rfl
  refine ih _ _ (by simp; omega) ?_ (fun q hq' => ?_)
  ·unfold pnames at hp ⊢
   rw [List.map_append, hp, List.length_append]
   show _ = ns.take (acc.length + 1)
   rw [List.take_succ_eq_append_getElem hlt]
   simp [e]
  ·rcases List.mem_append.1 hq' with hq' | hq'
   ·exact hq q hq'
   ·rw [List.mem_singleton] at hq'
    subst hq'
    have hb := good_bdy code h1 h2 acc.length k
    exact ⟨by show isNameL (ns[acc.length]?.getD ByteArray.empty).data.toList = true; rw [e]; exact h3 _ (List.getElem_mem hlt), hb.1, hb.2.1, hb.2.2⟩
theorem drawn_procs (code : List UInt8) : ∃ ns, (ns = nmD.take 2 ∨ ns = nmD.take 3 ∨ ns = nmD.take 4) ∧ pnames (drawnP code).procs = ns ∧ ∀ q ∈ (drawnP code).procs, GoodP (ns.drop 1) q := by
 have hb := belowD_bd code (n := 3) (by decide) (curNew code)
 obtain ⟨h1, h2, h3, h4⟩ := nsD_ok hb.1 hb.2
 have := prsD_good code h1 h3 h2 (nsD (belowD code 3 (curNew code)).1).length [] (belowD code 3 (curNew code)).2 (by simp) rfl (fun q hq => by cases hq)
 refine ⟨nsD (belowD code 3 (curNew code)).1, ?_, this.1, this.2⟩
 generalize (belowD code 3 (curNew code)).1 = x at *
 have hx : x = 0 ∨ x = 1 ∨ x = 2 := by omega
 rcases hx with rfl | rfl | rfl
 ·exact .inl rfl
 ·exact .inr (.inl rfl)
 ·exact .inr (.inr rfl)
end Go.Proofs.YtnmblfonmfjoeaaGreatDoor
