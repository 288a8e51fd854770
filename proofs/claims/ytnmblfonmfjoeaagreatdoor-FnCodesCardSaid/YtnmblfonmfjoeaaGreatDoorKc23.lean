/- Lemmas for the row. -/
import Derived.Test.YtnmblfonmfjoeaaGreatDoorKc22
import Derived.IntWalk
namespace Go.Proofs.YtnmblfonmfjoeaaGreatDoor
open Go.RowKit
set_option maxHeartbeats 800000
set_option linter.unusedVariables false
noncomputable def decP (p : Prop) : Bool := @decide p (Classical.propDecidable _)
theorem decP_yes {p : Prop} (h : p) : decP p = true := by unfold decP; exact @decide_eq_true _ (Classical.propDecidable _) h
theorem decP_no {p : Prop} (h : ¬ p) : decP p = false := by unfold decP; exact @decide_eq_false _ (Classical.propDecidable _) h
theorem decP_true {p : Prop} (h : decP p = true) : p := Classical.byContradiction fun hn => by rw [decP_no hn] at h; cases h
theorem addOnce_nil {acc : List ByteArray} {x : ByteArray} (h : addOnceP acc x = []) : False := by
 unfold addOnceP at h
 split at h
 ·next hh => rw [h] at hh; simp [hasS] at hh
 ·simp at h
theorem addUnk_nil {known acc : List ByteArray} {x : ByteArray} (h : addUnk known acc x = []) : acc = [] ∧ hasS known x = true := by
 unfold addUnk at h
 split at h
 ·exact ⟨h, ‹_›⟩
 ·exact (addOnce_nil h).elim
theorem headK_nil {gl lo pr acc : List ByteArray} {k : Int} {s : ByteArray} (h : headK gl lo pr k acc s = []) : acc = [] ∧ (k = 1 → hasS gl s = true) ∧ (k = 6 ∨ k = 7 → hasS lo s = true) ∧ (k = 4 ∨ k = 5 → hasS pr s = true) := by
 unfold headK at h
 split at h
 ·have := addUnk_nil h; exact ⟨this.1, fun _ => this.2, fun h => by omega, fun h => by omega⟩
 ·split at h
  ·have := addUnk_nil h; exact ⟨this.1, fun h => by omega, fun _ => this.2, fun h => by omega⟩
  ·split at h
   ·have := addUnk_nil h; exact ⟨this.1, fun h => by omega, fun h => by omega, fun _ => this.2⟩
   ·exact ⟨h, fun h => by omega, fun h => by omega, fun h => by omega⟩
theorem readK_knownC {gl : List ByteArray} : ∀ {reads acc : List ByteArray}, readK gl acc reads = [] → acc = [] ∧ ∀ x ∈ reads, hasS gl x = true
 | [], acc, h => ⟨h, fun x hx => by simp at hx⟩
 | x :: r, acc, h => by
  have h1 : readK gl (addUnk gl acc x) r = [] := h
  obtain ⟨h2, h3⟩ := readK_knownC h1
  obtain ⟨h4, h5⟩ := addUnk_nil h2
  refine ⟨h4, fun y hy => ?_⟩
  rcases List.mem_cons.1 hy with rfl | hy
  ·exact h5
  ·exact h3 y hy
mutual
def knGC (gl lo pr : List ByteArray) : St → Prop
 | .mk k s t b e => (k = 1 → hasS gl s = true) ∧ (k = 6 ∨ k = 7 → hasS lo s = true) ∧ (k = 4 ∨ k = 5 → hasS pr s = true) ∧ (∀ x ∈ readsR t, hasS gl x = true) ∧ knGsC gl lo pr b ∧ knGsC gl lo pr e
def knGsC (gl lo pr : List ByteArray) : List St → Prop
 | [] => True
 | g :: r => knGC gl lo pr g ∧ knGsC gl lo pr r
end
mutual
theorem unkG_nil {gl lo pr : List ByteArray} : ∀ (g : St) {acc : List ByteArray}, unkG gl lo pr acc g = [] → acc = [] ∧ knGC gl lo pr g
 | .mk k s t b e, acc, h => by
  rw [unkG_mk] at h
  obtain ⟨h1, h2⟩ := unkGs_nil e h
  obtain ⟨h3, h4⟩ := unkGs_nil b h1
  obtain ⟨h5, h6⟩ := readK_knownC h3
  obtain ⟨h7, h8, h9, h10⟩ := headK_nil h5
  rw [knGC]
  exact ⟨h7, h8, h9, h10, h6, h4, h2⟩
theorem unkGs_nil {gl lo pr : List ByteArray} : ∀ (l : List St) {acc : List ByteArray}, unkGs gl lo pr acc l = [] → acc = [] ∧ knGsC gl lo pr l
 | [], acc, h => by rw [unkGs] at h; rw [knGsC]; exact ⟨h, trivial⟩
 | g :: r, acc, h => by
  rw [unkGs] at h
  obtain ⟨h1, h2⟩ := unkGs_nil r h
  obtain ⟨h3, h4⟩ := unkG_nil g h1
  rw [knGsC]
  exact ⟨h3, h4, h2⟩
end
theorem unkP_knownC {gl lo pr : List ByteArray} : ∀ (l : List Pr) {acc : List ByteArray}, l.foldl (fun acc q => unkGs gl lo pr acc q.body) acc = [] → acc = [] ∧ ∀ q ∈ l, knGsC gl lo pr q.body
 | [], acc, h => ⟨h, fun q hq => by simp at hq⟩
 | a :: r, acc, h => by
  rw [List.foldl_cons] at h
  obtain ⟨h1, h2⟩ := unkP_knownC r h
  obtain ⟨h3, h4⟩ := unkGs_nil a.body h1
  refine ⟨h3, fun q hq => ?_⟩
  rcases List.mem_cons.1 hq with rfl | hq
  ·exact h4
  ·exact h2 q hq
theorem place_in {ss : List ByteArray} {x : ByteArray} (h : hasS ss x = true) : inB (placeS ss x) 0 ((ss.length : Int) - 1) = true := by
 have h1 := placeS_has ss x
 rw [h, decide_eq_true_eq] at h1
 have h2 := placeS_range ss x
 exact inB_yes h1 (by omega)
theorem insB_wide {p : Cd} {x : Ic} {b l b' l' : Int} (h : insB p x b l = true) (hb : b' ≤ b) (hl : l ≤ l') : insB p x b' l' = true := by
 unfold insB at h ⊢
 rw [Bool.and_eq_true] at h ⊢
 refine ⟨h.1, ?_⟩
 have h2 := h.2
 unfold tgtB at h2 ⊢
 split
 ·next hh => rw [if_pos hh] at h2; have := inB_le h2; exact inB_yes (by omega) (by omega)
 ·next hh => rw [if_neg hh] at h2; exact h2
theorem zero_same : sameB zeroTm zeroTm = true := by simp [sameB]
theorem ins_plain {p : Cd} {op arg : Int} {b l : Int} (h1 : 3 ≤ op) (h2 : op ≤ 9) (hn : op ≠ 3) (ha : inB arg 0 (mostC p op) = true) : insB p ⟨op, arg, zeroTm, 0⟩ b l = true := by
 rw [insB_fin (inB_yes (by show (1 : Int) ≤ op; omega) h2) ha, tgtB_none (by show ¬ (op = 2 ∨ op = 3); omega)]
 ·rfl
 ·rw [trmB_zero (by show ¬ (op = 1 ∨ op = 2); omega)]; exact zero_same
theorem ins_jump {p : Cd} {z b l : Int} (h : b ≤ z) (h2 : z ≤ l) : insB p ⟨3, 0, zeroTm, z⟩ b l = true := by
 rw [insB_fin (by rfl) (by show inB 0 0 (mostC p 3) = true; simp [mostC, inB]), tgtB_jump (.inr rfl)]
 ·exact inB_yes h h2
 ·rw [trmB_zero (by simp)]; exact zero_same
theorem ins_test {p : Cd} {t : Tm} {z b l : Int} (ht : okT 6 t = true) (hr : ∀ x ∈ readsR t, hasS p.globals x = true) (h : b ≤ z) (h2 : z ≤ l) : insB p ⟨2, 0, t, z⟩ b l = true := by
 rw [insB_fin (by rfl) (by show inB 0 0 (mostC p 2) = true; simp [mostC, inB]), tgtB_jump (.inl rfl)]
 ·exact inB_yes h h2
 ·exact trmB_yes (.inr rfl) ht (List.all_eq_true.2 hr)
theorem ins_set {p : Cd} {t : Tm} {s : ByteArray} {b l : Int} (ht : okT 6 t = true) (hr : ∀ x ∈ readsR t, hasS p.globals x = true) (hs : hasS p.globals s = true) : insB p ⟨1, placeS p.globals s, t, 0⟩ b l = true := by
 rw [insB_fin (by rfl) (by show inB _ 0 (mostC p 1) = true; simp only [mostC, if_true]; exact place_in hs), tgtB_none (by simp)]
 ·rfl
 ·exact trmB_yes (.inl rfl) ht (List.all_eq_true.2 hr)
theorem shapeG_term {k : Int} {s : ByteArray} {t : Tm} {b e : List St} (h : shapeG (.mk k s t b e) = true) (hk : k = 1 ∨ k = 2 ∨ k = 3) : okT 6 t = true := by
 rw [shapeG] at h
 unfold shapeB at h
 rcases hk with rfl | rfl | rfl
 ·rw [if_pos rfl] at h; simp only [Bool.and_eq_true] at h; exact h.1.1.2
 ·rw [if_neg (by decide), if_pos rfl] at h; simp only [Bool.and_eq_true] at h; exact h.2
 ·rw [if_neg (by decide), if_neg (by decide), if_pos rfl] at h; simp only [Bool.and_eq_true] at h; exact h.1.2
abbrev GoodI (p : Cd) (b l : Int) (x : Ic) : Prop := insB p x b l = true ∧ x.op ≠ 9
mutual
theorem emT_good (p : Pg) : ∀ (deep : Nat) (g : St) (n : Nat), rightG deep g = true → knGC p.globals p.locks (pnames p.procs) g → ∀ x ∈ emT (envP p) n g, GoodI (codeP p) (n : Int) ((n + (emT (envP p) n g).length : Nat) : Int) x
 | deep, .mk k s t b e, n, hr, hk => by
  rw [rightG_mk, Bool.and_eq_true] at hr
  obtain ⟨h1, h2⟩ := hr
  rw [knGC] at hk
  obtain ⟨k1, k2, k3, k4, k5, k6⟩ := hk
  have h0 := h1
  rw [shapeG] at h0
  obtain ⟨⟨hlo, hhi⟩, _, _⟩ := shapeB_kind h0
  clear h0
  by_cases h3 : k = 3
  ·subst h3
   have ht := shapeG_term h1 (.inr (.inr rfl))
   rw [if_pos (by decide), Bool.and_eq_true, Bool.and_eq_true] at h2
   have hb := emSs_good p (deep - 1) b (n + 1) h2.1.2 k5
   rw [emT_while]
   intro x hx
   rw [List.length_cons, List.length_append, List.length_singleton]
   rcases List.mem_cons.1 hx with rfl | hx
   ·exact ⟨ins_test ht k4 (by omega) (by omega), by simp⟩
   ·rcases List.mem_append.1 hx with hx | hx
    ·exact ⟨insB_wide (hb x hx).1 (by omega) (by omega), (hb x hx).2⟩
    ·rw [List.mem_singleton.1 hx]
     exact ⟨ins_jump (by omega) (by omega), by simp⟩
  ·by_cases h2' : k = 2
   ·subst h2'
    have ht := shapeG_term h1 (.inr (.inl rfl))
    rw [if_pos (by decide), Bool.and_eq_true, Bool.and_eq_true] at h2
    have hb := emSs_good p (deep - 1) b (n + 1) h2.1.2 k5
    by_cases h0 : e.length = 0
    ·rw [emT_if0 _ _ _ _ _ _ h0]
     intro x hx
     rw [List.length_cons]
     rcases List.mem_cons.1 hx with rfl | hx
     ·exact ⟨ins_test ht k4 (by omega) (by omega), by simp⟩
     ·exact ⟨insB_wide (hb x hx).1 (by omega) (by omega), (hb x hx).2⟩
    ·have he := emSs_good p (deep - 1) e (n + 1 + (emSs (envP p) (n + 1) b).length + 1) h2.2 k6
     rw [emT_if1 _ _ _ _ _ _ h0]
     intro x hx
     rw [List.length_cons, List.length_append, List.length_cons]
     rcases List.mem_cons.1 hx with rfl | hx
     ·exact ⟨ins_test ht k4 (by omega) (by omega), by simp⟩
     ·rcases List.mem_append.1 hx with hx | hx
      ·exact ⟨insB_wide (hb x hx).1 (by omega) (by omega), (hb x hx).2⟩
      ·rcases List.mem_cons.1 hx with rfl | hx
       ·exact ⟨ins_jump (by omega) (by omega), by simp⟩
       ·exact ⟨insB_wide (he x hx).1 (by omega) (by omega), (he x hx).2⟩
   ·rw [emT_one _ _ _ _ _ _ _ h3 h2']
    intro x hx
    rw [List.mem_singleton.1 hx]
    unfold icOf
    split
    ·next h => subst h; exact ⟨ins_set (shapeG_term h1 (.inl rfl)) k4 (k1 rfl), by simp⟩
    ·split
     ·next h => subst h; exact ⟨ins_plain (by decide) (by decide) (by decide) (by simp only [mostC]; exact place_in (k3 (.inl rfl))), by simp⟩
     ·split
      ·next h => subst h; exact ⟨ins_plain (by decide) (by decide) (by decide) (by simp only [mostC]; exact place_in (k3 (.inr rfl))), by simp⟩
      ·split
       ·next h => subst h; exact ⟨ins_plain (by decide) (by decide) (by decide) (by simp only [mostC]; exact place_in (k2 (.inl rfl))), by simp⟩
       ·split
        ·next h => subst h; exact ⟨ins_plain (by decide) (by decide) (by decide) (by simp only [mostC]; exact place_in (k2 (.inr rfl))), by simp⟩
        ·exact ⟨ins_plain (by decide) (by decide) (by decide) (by simp [mostC, inB]), by simp⟩
theorem emSs_good (p : Pg) : ∀ (deep : Nat) (l : List St) (n : Nat), rightGs deep l = true → knGsC p.globals p.locks (pnames p.procs) l → ∀ x ∈ emSs (envP p) n l, GoodI (codeP p) (n : Int) ((n + (emSs (envP p) n l).length : Nat) : Int) x
 | deep, [], n, _, _ => by rw [emSs]; intro x hx; simp at hx
 | deep, g :: r, n, hr, hk => by
  rw [rightGs, Bool.and_eq_true] at hr
  rw [knGsC] at hk
  have h1 := emT_good p deep g n hr.1 hk.1
  have h2 := emSs_good p deep r (n + (emT (envP p) n g).length) hr.2 hk.2
  rw [emSs]
  intro x hx
  rw [List.length_append]
  rcases List.mem_append.1 hx with hx | hx
  ·exact ⟨insB_wide (h1 x hx).1 (by omega) (by omega), (h1 x hx).2⟩
  ·exact ⟨insB_wide (h2 x hx).1 (by omega) (by omega), (h2 x hx).2⟩
end
theorem insR_append (e : Env) : ∀ (l r : List Pr) (n : Nat), insR e n (l ++ r) = insR e n l ++ insR e (n + (insR e n l).length) r
 | [], r, n => by simp [insR]
 | a :: l, r, n => by
  rw [List.cons_append, insR, insR, insR_append e l r]
  have e1 : n + (emSs e n a.body).length + 1 + (insR e (n + (emSs e n a.body).length + 1) l).length = n + (emSs e n a.body ++ endI :: insR e (n + (emSs e n a.body).length + 1) l).length := by simp; omega
  rw [e1]
  simp
def pl (p : Pg) (i : Nat) : Nat := (insR (envP p) 0 (p.procs.take i)).length
theorem pl_zero (p : Pg) : pl p 0 = 0 := by simp [pl, insR]
theorem pl_all (p : Pg) {i : Nat} (h : p.procs.length ≤ i) : pl p i = (codeP p).ins.length := by
 unfold pl; rw [List.take_of_length_le h]; rfl
theorem pl_succ (p : Pg) {i : Nat} (h : i < p.procs.length) : pl p (i + 1) = pl p i + (emSs (envP p) (pl p i) p.procs[i].body).length + 1 := by
 unfold pl
 rw [List.take_succ_eq_append_getElem h, insR_snoc, Nat.zero_add]
 simp [Nat.add_assoc]
theorem pl_le (p : Pg) {i j : Nat} (h : i ≤ j) : pl p i ≤ pl p j := by
 induction j with
 | zero => rw [show i = 0 from by omega]; exact Nat.le_refl _
 | succ j ih =>
  by_cases hij : i = j + 1
  ·subst hij; exact Nat.le_refl _
  ·have h1 := ih (by omega)
   by_cases hj : j < p.procs.length
   ·rw [pl_succ p hj]; omega
   ·rw [pl_all p (by omega : p.procs.length ≤ j + 1)]; rw [pl_all p (by omega : p.procs.length ≤ j)] at h1; exact h1
theorem pl_top (p : Pg) (i : Nat) : pl p i ≤ (codeP p).ins.length := by
 rw [← pl_all p (Nat.le_refl p.procs.length)]
 by_cases h : i ≤ p.procs.length
 ·exact pl_le p h
 ·rw [pl_all p (by omega : p.procs.length ≤ i), pl_all p (Nat.le_refl _)]; exact Nat.le_refl _
theorem entR_get (e : Env) : ∀ (l : List Pr) (n i : Nat) (x : Int), i < l.length → (entR e n l).getD i x = ((n + (insR e n (l.take i)).length : Nat) : Int)
 | [], n, i, x, h => by simp at h
 | a :: r, n, 0, x, h => by simp [entR, insR]
 | a :: r, n, i + 1, x, h => by
  have h' : i < r.length := by simpa using h
  rw [entR, List.getD_cons_succ, entR_get e r _ i x h', List.take_succ_cons, insR]
  simp only [List.length_append, List.length_cons]
  omega
theorem code_entry (p : Pg) {i : Nat} (h : i < p.procs.length) (x : Int) : (codeP p).entry.getD i x = (pl p i : Int) := by
 show (entR (envP p) 0 p.procs).getD i x = _
 rw [entR_get _ _ _ _ _ h, Nat.zero_add]; rfl
theorem code_entry_len (p : Pg) : (codeP p).entry.length = p.procs.length := entR_len _ _ _
theorem code_fin (p : Pg) {i : Nat} (h : i < p.procs.length) : finE (codeP p).entry (codeP p).ins.length i = (pl p (i + 1) : Int) := by
 by_cases h2 : i + 1 < p.procs.length
 ·rw [finE_in (by rw [code_entry_len]; exact h2), code_entry p h2]
 ·rw [finE_out (by rw [code_entry_len]; omega), pl_all p (by omega)]
theorem code_ins (p : Pg) {i j : Nat} (hi : i < p.procs.length) (h1 : pl p i ≤ j) (h2 : j < pl p (i + 1)) (hj : j < (codeP p).ins.length) : (j = pl p (i + 1) - 1 ∧ (codeP p).ins[j] = endI) ∨ (j < pl p (i + 1) - 1 ∧ (codeP p).ins[j] ∈ emSs (envP p) (pl p i) p.procs[i].body) := by
 have hs := pl_succ p hi
 have e : (codeP p).ins = insR (envP p) 0 (p.procs.take i) ++ (emSs (envP p) (pl p i) p.procs[i].body ++ endI :: insR (envP p) (pl p (i + 1)) (p.procs.drop (i + 1))) := by
  show insR (envP p) 0 p.procs = _
  have h3 : p.procs = p.procs.take i ++ (p.procs[i] :: p.procs.drop (i + 1)) := by rw [← List.drop_eq_getElem_cons hi, List.take_append_drop]
  conv => lhs; rw [h3]
  rw [insR_append, Nat.zero_add, insR, hs]
  rfl
 have hl : (insR (envP p) 0 (p.procs.take i)).length = pl p i := rfl
 have g : (codeP p).ins[j]? = some (codeP p).ins[j] := List.getElem?_eq_getElem hj
 generalize (codeP p).ins[j] = x at g ⊢
 rw [e, List.getElem?_append_right (by omega), hl] at g
 by_cases hlast : j - pl p i < (emSs (envP p) (pl p i) p.procs[i].body).length
 ·rw [List.getElem?_append_left hlast] at g
  exact .inr ⟨by omega, List.mem_of_getElem? g⟩
 ·rw [List.getElem?_append_right (by omega), show j - pl p i - (emSs (envP p) (pl p i) p.procs[i].body).length = 0 from by omega] at g
  simp only [List.getElem?_cons_zero] at g
  injection g with g
  exact .inl ⟨by omega, g.symm⟩
theorem fault_names {p : Pg} (h : faultR p = 0) : namB (codeP p) = true ∧ 0 < p.procs.length := by
 have hok := fault_ok h
 have hok2 := hok
 rw [okPg] at hok2
 simp only [Bool.and_eq_true, decide_eq_true_eq, List.all_eq_true] at hok2
 obtain ⟨⟨⟨hg, hl⟩, hp⟩, hq⟩ := hok2
 rw [faultR, if_neg (by rw [hok]; simp)] at h
 by_cases h1 : twiceS p.globals = true
 ·rw [if_pos h1] at h; cases h
 ·rw [if_neg h1] at h
  by_cases h2 : twiceS p.locks = true
  ·rw [if_pos h2] at h; cases h
  ·rw [if_neg h2] at h
   by_cases h3 : twiceS (pnames p.procs) = true
   ·rw [if_pos h3] at h; cases h
   ·rw [if_neg h3] at h
    by_cases h4 : 0 < (unkR p).length
    ·rw [if_pos h4] at h; cases h
    ·rw [if_neg h4] at h
     by_cases h5 : hasS (pnames p.procs) mainB = false
     ·rw [if_pos h5] at h; cases h
     ·have h6 : hasS (pnames p.procs) mainB = true := by simpa using h5
      have hn : namesB 8 (pnames p.procs) = true := by
       rw [namesB, Bool.and_eq_true, decide_eq_true_eq, pnames_len]
       refine ⟨hp, List.all_eq_true.2 fun s hs => ?_⟩
       obtain ⟨q, hqm, rfl⟩ := List.mem_map.1 hs
       have := hq q hqm
       rw [okPr, Bool.and_eq_true] at this
       exact this.1
      refine ⟨?_, ?_⟩
      ·have h1' : twiceS p.globals = false := by simpa using h1
       have h2' : twiceS p.locks = false := by simpa using h2
       have h3' : twiceS (pnames p.procs) = false := by simpa using h3
       rw [namB_8 (p := codeP p) hg hl hn h1' h2' h3']
       exact h6
      ·have := has_pos h6; rw [pnames_len] at this; exact this
theorem fault_known {p : Pg} (h : faultR p = 0) : ∀ q ∈ p.procs, rightGs 6 q.body = true ∧ knGsC p.globals p.locks (pnames p.procs) q.body := by
 have hok := fault_ok h
 have hu : unkR p = [] := by
  rw [faultR, if_neg (by rw [hok]; simp)] at h
  by_cases h1 : twiceS p.globals = true
  ·rw [if_pos h1] at h; cases h
  ·rw [if_neg h1] at h
   by_cases h2 : twiceS p.locks = true
   ·rw [if_pos h2] at h; cases h
   ·rw [if_neg h2] at h
    by_cases h3 : twiceS (pnames p.procs) = true
    ·rw [if_pos h3] at h; cases h
    ·rw [if_neg h3] at h
     by_cases h4 : 0 < (unkR p).length
     ·rw [if_pos h4] at h; cases h
     ·exact List.length_eq_zero_iff.1 (by omega)
 rw [unkR_yes hok] at hu
 intro q hq
 refine ⟨?_, (unkP_knownC p.procs hu).2 q hq⟩
 have := List.all_eq_true.1 (okPg_procs hok).2 q hq
 rw [okPr, Bool.and_eq_true] at this
 exact (fit_inv this.2).1
theorem code_ok {p : Pg} (h : faultR p = 0) : CodOk (codeP p) := by
 obtain ⟨hn, hpos⟩ := fault_names h
 have hk := fault_known h
 obtain ⟨_, _, h8, hq⟩ := fault_facts h
 have good : ∀ i (hi : i < p.procs.length), ∀ x ∈ emSs (envP p) (pl p i) p.procs[i].body, GoodI (codeP p) (pl p i : Int) ((pl p (i + 1) : Int) - 1) x := fun i hi x hx => by
  have h1 := emSs_good p 6 p.procs[i].body (pl p i) (hk _ (List.getElem_mem hi)).1 (hk _ (List.getElem_mem hi)).2 x hx
  refine ⟨insB_wide h1.1 (Int.le_refl _) ?_, h1.2⟩
  rw [pl_succ p hi]; omega
 have hlen : (codeP p).ins.length ≤ 1500 := by
  have := insR_len (envP p) p.procs 0 (fun q hqm => (hq q hqm).2)
  show (insR (envP p) 0 p.procs).length ≤ 1500
  omega
 have he := code_entry_len p
 have op_at : ∀ i j (hi : i < p.procs.length) (h1 : pl p i ≤ j) (h2 : j < pl p (i + 1)), ((opsC (codeP p)).getD j 0 = 9 ↔ j = pl p (i + 1) - 1) := fun i j hi h1 h2 => by
  have hj : j < (codeP p).ins.length := Nat.lt_of_lt_of_le h2 (pl_top p (i + 1))
  rw [opsC_get _ hj]
  rcases code_ins p hi h1 h2 hj with ⟨a, b⟩ | ⟨a, b⟩
  ·rw [b]; exact ⟨fun _ => a, fun _ => rfl⟩
  ·exact ⟨fun e => absurd e (good i hi _ b).2, fun e => by omega⟩
 have ent : EntOk (codeP p).entry (opsC (codeP p)) := by
  refine ⟨?_, fun i hi => ?_, fun i hi => ?_, fun i hi => ?_, fun i j hi h1 h2 => ?_⟩
  ·rw [code_entry p hpos, pl_zero]; rfl
  ·rw [he] at hi
   rw [opsC_len, code_fin p hi, code_entry p hi, pl_succ p hi]; omega
  ·rw [he] at hi
   rw [opsC_len, code_fin p hi]
   have := pl_top p (i + 1); omega
  ·rw [he] at hi
   rw [opsC_len, code_fin p hi]
   have hs := pl_succ p hi
   rw [show ((pl p (i + 1) : Int) - 1).toNat = pl p (i + 1) - 1 from by omega]
   exact (op_at i (pl p (i + 1) - 1) hi (by omega) (by omega)).2 rfl
  ·rw [he] at hi
   rw [opsC_len, code_fin p hi] at h2
   rw [code_entry p hi] at h1
   intro e
   have := (op_at i j hi (by omega) (by omega)).1 e
   omega
 refine codOk_of ⟨hn, by rw [he]; show _ = (pnames p.procs).length; rw [pnames_len], hlen, ent⟩ fun i hi j hj h1 h2 => ?_
 rw [he] at hi
 rw [code_entry p hi] at h1 ⊢
 rw [code_fin p hi] at h2 ⊢
 rcases code_ins p hi (by omega) (by omega) hj with ⟨a, b⟩ | ⟨a, b⟩
 ·rw [b]; exact ins_plain (by decide) (by decide) (by decide) (by simp [mostC, inB])
 ·exact (good i hi _ b).1
mutual
theorem totIs_emT (e : Env) : ∀ (n : Nat) (g : St), totIs (emT e n g) ≤ 4 * (1 + totG g)
 | n, .mk k s t b el => by
  have h1 := totIs_emSs e (n + 1) b
  have h2 := totIs_emSs e (n + 1 + (emSs e (n + 1) b).length + 1) el
  have hz : totT zeroTm = 0 := by rw [zeroTm, totT, totTs]; rfl
  rw [totG]
  by_cases h3 : k = 3
  ·subst h3
   rw [emT_while]
   simp only [totIs, totIs_append, hz]
   omega
  ·by_cases h2' : k = 2
   ·subst h2'
    by_cases h0 : el.length = 0
    ·rw [emT_if0 _ _ _ _ _ _ h0]
     simp only [totIs]
     omega
    ·rw [emT_if1 _ _ _ _ _ _ h0]
     simp only [totIs, totIs_append, hz]
     omega
   ·rw [emT_one _ _ _ _ _ _ _ h3 h2']
    have : totT (icOf e k s t).term ≤ totT t := by
     unfold icOf
     repeat' split
     all_goals first | exact Nat.le_refl _ | (simp only [hz]; omega)
    simp only [totIs]
    omega
theorem totIs_emSs (e : Env) : ∀ (n : Nat) (l : List St), totIs (emSs e n l) ≤ 4 * totGs l
 | n, [] => by simp [emSs, totIs]
 | n, g :: r => by
  have h1 := totIs_emT e n g
  have h2 := totIs_emSs e (n + (emT e n g).length) r
  rw [emSs, totIs_append, totGs]
  omega
end
theorem totIs_insR (e : Env) : ∀ (l : List Pr) (n : Nat), totIs (insR e n l) ≤ 4 * totPrs l
 | [], n => by simp [insR, totIs]
 | a :: r, n => by
  have h1 := totIs_emSs e n a.body
  have h2 := totIs_insR e r (n + (emSs e n a.body).length + 1)
  have hz : totT zeroTm = 0 := by rw [zeroTm, totT, totTs]; rfl
  rw [insR, totIs_append, totIs, totPrs, totPr]
  simp only [endI, hz]
  omega
theorem spec_l08Proc (p : Cd) (x : V5) (w : World) (hp : CdIs w x p) (a : Int) :
  Calls Tryz.prog 91 #[x.val p, .int .i64 a] w fun e w' => e = .returned (.int .i64 (procE p.entry a p.entry.length)) ∧ Below w.heap.size w w' := by
 obtain ⟨gA, gc, lA, lc, pA, pc, eA, ec, iA, ic⟩ := x
 have RD := qh hp.e3
 have hl := hp.e1
 have hc := hp.e2
 simp only at hl hc
 unfold maxLen at hc
 unfold V5.val
 simp only
 clear hp
 go_enter Tryz.func91, Tryz.ntmps91
 go_wp2_with fail
 go_loop [5] (fun i => ∃ m : Int, -1 ≤ m ∧ m < (p.entry.length : Int) ∧ i = .int .i64 m ∧ Hid (procE p.entry a p.entry.length = procE p.entry a (m + 1).toNat)) (fun i => (intOf i + 1).toNat)
 case atStart => exact ⟨_, by omega, by omega, rfl, qh (by rw [show ((p.entry.length : Int) - 1 + 1).toNat = p.entry.length from by omega])⟩
 case round =>
  obtain ⟨m, h1, h2, rfl, HT⟩ := hrel
  by_cases h0 : 0 ≤ m
  ·obtain ⟨j, rfl⟩ : ∃ j : Nat, m = (j : Int) := ⟨m.toNat, by omega⟩
   have hlt : j < p.entry.length := by omega
   obtain ⟨b, off, rfl, hcell⟩ := rd_int RD.out hlt
   have hbl := cell_lt hcell
   have hg := getD_get hlt 0
   have S : Hid (procE p.entry a p.entry.length = if p.entry[j] ≤ a then (j : Int) else procE p.entry a j) := qh (by
    rw [HT.out, show ((j : Int) + 1).toNat = j + 1 from by omega, procE, hg])
   clear hg h0
   by_cases e : p.entry[j] ≤ a
   ·go_wp2_with fail
    go_ret
    exact ⟨ret_int (by rw [S.out, if_pos e]), zB⟩
   ·have e' : a < p.entry[j] := by omega
    have E := qh e
    clear e
    go_wp2_with fail
    go_round
    case rel => exact ⟨(j : Int) - 1, by omega, by omega, rfl, qh (by rw [S.out, if_neg E.out, show ((j : Int) - 1 + 1).toNat = j from by omega])⟩
    case measure => simp [intOf]
  ·have e : m = -1 := by omega
   have S : Hid (procE p.entry a p.entry.length = -1) := qh (by rw [HT.out, e]; rfl)
   clear e
   go_wp2_with fail
   go_ret
   exact ⟨ret_int S.out.symm, zB⟩
theorem spec_l08End (p : Cd) (x : V5) (w : World) (hp : CdIs w x p) (a : Int) (h1 : -1 ≤ a) (h2 : a < (p.entry.length : Int)) (hn : ∀ i, i < p.entry.length → 0 ≤ p.entry.getD i 0) :
  Calls Tryz.prog 90 #[x.val p, .int .i64 a] w fun e w' => e = .returned (.int .i64 (endE p.entry p.ins.length a)) ∧ Below w.heap.size w w' := by
 obtain ⟨gA, gc, lA, lc, pA, pc, eA, ec, iA, ic⟩ := x
 have RD := qh hp.e3
 have hl := hp.e1
 have hc := hp.e2
 have hil := hp.i1
 have hic := hp.i2
 have HE := qh hp.e4
 simp only at hl hc hil hic
 unfold maxLen at hc hic
 unfold V5.val
 simp only
 clear hp
 by_cases h : a + 1 < (p.entry.length : Int)
 ·obtain ⟨j, hj⟩ : ∃ j : Nat, a + 1 = (j : Int) := ⟨(a + 1).toNat, by omega⟩
  have hlt : j < p.entry.length := by omega
  obtain ⟨b, off, rfl, hcell⟩ := rd_int RD.out hlt
  have hbl := cell_lt hcell
  have S : Hid (endE p.entry p.ins.length a = p.entry[j] - 1) := qh (by unfold endE; rw [if_pos h, hj, Int.toNat_natCast, getD_get hlt])
  have hz : 0 ≤ p.entry[j] := by have := hn j hlt; rwa [getD_get hlt] at this
  have hz2 := (HE.out p.entry[j] (List.getElem_mem hlt)).2
  have ej : a = (j : Int) - 1 := by omega
  subst ej
  clear hj hn
  have w1 : IntKind.i64.wrap ((j : Int) - 1 + 1) = (j : Int) := by rw [Int.sub_add_cancel]; exact IntWalk.i64_in _ (by omega)
  have e1 : (j : Int) - 1 + 1 = (j : Int) := by omega
  go_enter Tryz.func90, Tryz.ntmps90
  go_wp2_with fail
  go_ret
  exact ⟨ret_int S.out.symm, zB⟩
 ·have S : Hid (endE p.entry p.ins.length a = (p.ins.length : Int) - 1) := qh (by unfold endE; rw [if_neg h])
  go_enter Tryz.func90, Tryz.ntmps90
  go_wp2_with fail
  go_ret
  exact ⟨ret_int S.out.symm, zB⟩
end Go.Proofs.YtnmblfonmfjoeaaGreatDoor
