/- Names that are not there: what the reference and the program gather, in plain lists; names told twice; the names of the procedures. -/
import Derived.Test.YtkipkincggajcaaGrew
import Derived.Test.YtkipkincggajcaaPgOkLaw
import Derived.Test.YtkipkincggajcaaProcAt
namespace Go.Proofs.Ytkipkincggajcaa
open Go.RowKit
set_option linter.unusedVariables false

def headK (gl lo pr : List ByteArray) (k : Int) (acc : List ByteArray) (s : ByteArray) : List ByteArray :=
  if k = 1 then addUnk gl acc s else if k = 6 ∨ k = 7 then addUnk lo acc s else if k = 4 ∨ k = 5 then addUnk pr acc s else acc
def readK (gl acc reads : List ByteArray) : List ByteArray := reads.foldl (addUnk gl) acc
theorem readK_nil (gl acc : List ByteArray) : readK gl acc [] = acc := rfl
theorem readK_take (gl acc reads : List ByteArray) (m : Nat) (h : m < reads.length) : readK gl acc (reads.take (m + 1)) = addUnk gl (readK gl acc (reads.take m)) reads[m] := by
  have e : reads.take (m + 1) = reads.take m ++ [reads[m]] := List.take_succ_eq_append_getElem h
  unfold readK
  rw [e, List.foldl_append]; rfl
theorem readK_len (gl acc reads : List ByteArray) : (readK gl acc reads).length ≤ acc.length + reads.length := by
  induction reads generalizing acc with
  | nil => simp [readK]
  | cons x r ih =>
    have h1 := addUnk_len gl acc x
    have h2 := ih (addUnk gl acc x)
    have h3 : readK gl acc (x :: r) = readK gl (addUnk gl acc x) r := rfl
    rw [h3, List.length_cons]; omega
theorem headK_len (gl lo pr : List ByteArray) (k : Int) (acc : List ByteArray) (s : ByteArray) : (headK gl lo pr k acc s).length ≤ acc.length + 1 := by
  unfold headK
  have h1 := addUnk_len gl acc s
  have h2 := addUnk_len lo acc s
  have h3 := addUnk_len pr acc s
  repeat' split
  all_goals omega
mutual
def unkG (gl lo pr acc : List ByteArray) : St → List ByteArray
  | .mk k s t b e => unkGs gl lo pr (unkGs gl lo pr (readK gl (headK gl lo pr k acc s) (readsR t)) b) e
def unkGs (gl lo pr acc : List ByteArray) : List St → List ByteArray
  | [] => acc
  | g :: r => unkGs gl lo pr (unkG gl lo pr acc g) r
end
theorem unkG_mk (gl lo pr acc : List ByteArray) (k : Int) (s : ByteArray) (t : Tm) (b e : List St) : unkG gl lo pr acc (.mk k s t b e) = unkGs gl lo pr (unkGs gl lo pr (readK gl (headK gl lo pr k acc s) (readsR t)) b) e := by rw [unkG]
theorem unkGs_append (gl lo pr acc : List ByteArray) (l r : List St) : unkGs gl lo pr acc (l ++ r) = unkGs gl lo pr (unkGs gl lo pr acc l) r := by
  induction l generalizing acc with
  | nil => simp [unkGs]
  | cons t l ih => rw [List.cons_append, unkGs, unkGs, ih]
theorem unkGs_take (gl lo pr acc : List ByteArray) (l : List St) (j : Nat) (h : j < l.length) : unkGs gl lo pr acc (l.take (j + 1)) = unkG gl lo pr (unkGs gl lo pr acc (l.take j)) l[j] := by
  have e : l.take (j + 1) = l.take j ++ [l[j]] := List.take_succ_eq_append_getElem h
  rw [e, unkGs_append]; simp [unkGs]
mutual
theorem unkG_len (gl lo pr acc : List ByteArray) : (g : St) → (unkG gl lo pr acc g).length ≤ acc.length + 2 * (1 + totG g)
  | .mk k s t b e => by
    rw [unkG_mk, totG]
    have h1 := headK_len gl lo pr k acc s
    have h2 := readK_len gl (headK gl lo pr k acc s) (readsR t)
    have h3 := readsR_len t
    have h4 := nodes_tot t
    have h5 := unkGs_len gl lo pr (readK gl (headK gl lo pr k acc s) (readsR t)) b
    have h6 := unkGs_len gl lo pr (unkGs gl lo pr (readK gl (headK gl lo pr k acc s) (readsR t)) b) e
    omega
theorem unkGs_len (gl lo pr acc : List ByteArray) : (l : List St) → (unkGs gl lo pr acc l).length ≤ acc.length + 2 * totGs l
  | [] => by rw [unkGs, totGs]; omega
  | g :: r => by
    rw [unkGs, totGs]
    have h1 := unkG_len gl lo pr acc g
    have h2 := unkGs_len gl lo pr (unkG gl lo pr acc g) r
    omega
end
theorem totGs_split (l : List St) (j : Nat) (h : j < l.length) : totGs (l.take j) + (1 + totG l[j]) ≤ totGs l := by
  have e : totGs l = totGs (l.take j) + totGs (l.drop j) := by rw [← totGs_append, List.take_append_drop]
  rw [List.drop_eq_getElem_cons h, totGs] at e
  omega
mutual
def quietG : St → Prop
  | .mk k _ t b e => (k ≠ 1 → k ≠ 2 → k ≠ 3 → readsR t = []) ∧ quietGs b ∧ quietGs e
def quietGs : List St → Prop
  | [] => True
  | g :: r => quietG g ∧ quietGs r
end
theorem quietGs_mem {l : List St} (h : quietGs l) {g : St} (hg : g ∈ l) : quietG g := by
  induction l with
  | nil => cases hg
  | cons y r ih =>
    rw [quietGs] at h
    rcases List.mem_cons.1 hg with rfl | hg
    · exact h.1
    · exact ih h.2 hg
theorem quietGs_of {l : List St} (h : ∀ g ∈ l, quietG g) : quietGs l := by
  induction l with
  | nil => rw [quietGs]; trivial
  | cons y r ih => rw [quietGs]; exact ⟨h y (by simp), ih fun g hg => h g (by simp [hg])⟩
theorem rightGs_mem {deep : Nat} {l : List St} (h : rightGs deep l = true) {g : St} (hg : g ∈ l) : rightG deep g = true := by
  induction l with
  | nil => cases hg
  | cons y r ih =>
    rw [rightGs, Bool.and_eq_true] at h
    rcases List.mem_cons.1 hg with rfl | hg
    · exact h.1
    · exact ih h.2 hg
theorem readsR_zero : readsR zeroTm = [] := by
  apply readsR_no
  unfold zeroTm
  rw [okT_more (by decide) (by decide)]
  rfl
theorem snodess_nil {l : List St} (h : snodess l = 0) : l = [] := by
  cases l with
  | nil => rfl
  | cons g r =>
    obtain ⟨k, s, t, b, e⟩ := g
    rw [snodess, snodes] at h; omega
theorem shape_zero {k : Int} {s : ByteArray} {t : Tm} {b e : List St} (h : shapeG (.mk k s t b e) = true) (h1 : k ≠ 1) (h2 : k ≠ 2) (h3 : k ≠ 3) : t = zeroTm := by
  simp only [shapeG, shapeB] at h
  rw [if_neg h1, if_neg h2, if_neg h3] at h
  by_cases c4 : k = 4 ∨ k = 5 ∨ k = 6 ∨ k = 7
  · rw [if_pos c4] at h; simp only [Bool.and_eq_true] at h; exact sameB_true h.1.1.2
  · rw [if_neg c4] at h
    by_cases c8 : k = 8
    · rw [if_pos c8] at h; simp only [Bool.and_eq_true] at h; exact sameB_true h.1.1.2
    · rw [if_neg c8] at h; cases h
theorem quiet_right (l : List St) : ∀ deep, rightGs deep l = true → quietGs l := by
  induction hN : snodess l using Nat.strongRecOn generalizing l with
  | ind N ih =>
    intro deep h
    refine quietGs_of fun g hg => ?_
    have hr := rightGs_mem h hg
    have hlt := snodess_le hg
    obtain ⟨k, s, t, b, e⟩ := g
    rw [snodes] at hlt
    cases hs : shapeG (.mk k s t b e) with
    | false => rw [rightG_shape hs] at hr; cases hr
    | true =>
      rw [quietG]
      refine ⟨fun h1 h2 h3 => by rw [shape_zero hs h1 h2 h3]; exact readsR_zero, ?_⟩
      cases hm : manyB k with
      | false =>
        have h1 := plain_one hs hm
        rw [snodes] at h1
        rw [snodess_nil (l := b) (by omega), snodess_nil (l := e) (by omega)]
        exact ⟨by rw [quietGs]; trivial, by rw [quietGs]; trivial⟩
      | true =>
        rw [rightG_many hs hm, Bool.and_eq_true, Bool.and_eq_true] at hr
        exact ⟨ih _ (by omega) b rfl _ hr.1.2, ih _ (by omega) e rfl _ hr.2⟩
theorem quiet_fit {deep room : Nat} {l : List St} (h : fitGs deep room l = true) : quietGs l := quiet_right l deep (fit_inv h).1
/-- the names that a right program lacks -/
def unkP (gl lo pr : List ByteArray) (l : List Pr) : List ByteArray := l.foldl (fun acc q => unkGs gl lo pr acc q.body) []
theorem unkP_take (gl lo pr : List ByteArray) (l : List Pr) (k : Nat) (h : k < l.length) : unkP gl lo pr (l.take (k + 1)) = unkGs gl lo pr (unkP gl lo pr (l.take k)) l[k].body := by
  have e : l.take (k + 1) = l.take k ++ [l[k]] := List.take_succ_eq_append_getElem h
  unfold unkP
  rw [e, List.foldl_append]; rfl
theorem unkP_len (gl lo pr : List ByteArray) (l : List Pr) (k : Nat) : (unkP gl lo pr (l.take k)).length ≤ 2 * totPrs (l.take k) := by
  induction k with
  | zero => simp [unkP]
  | succ k ih =>
    by_cases h : k < l.length
    · rw [unkP_take _ _ _ _ _ h, totPrs_take _ _ h]
      have h1 := unkGs_len gl lo pr (unkP gl lo pr (l.take k)) l[k].body
      have h2 : totPr l[k] = l[k].name.size + totGs l[k].body := rfl
      omega
    · rw [List.take_of_length_le (by omega)]
      rw [List.take_of_length_le (by omega)] at ih
      exact ih
theorem totPrs_take_le (l : List Pr) (k : Nat) : totPrs (l.take k) ≤ totPrs l := by
  have e : totPrs l = totPrs (l.take k) + totPrs (l.drop k) := by rw [← totPrs_append, List.take_append_drop]
  omega
noncomputable def unkR (p : Pg) : List ByteArray := if okPg p = true then unkP p.globals p.locks (pnames p.procs) p.procs else []
theorem unkR_yes {p : Pg} (h : okPg p = true) : unkR p = unkP p.globals p.locks (pnames p.procs) p.procs := by simp [unkR, h]
theorem unkR_no {p : Pg} (h : okPg p = false) : unkR p = [] := by simp [unkR, h]
theorem okPg_procs {p : Pg} (h : okPg p = true) : p.procs.length ≤ 8 ∧ p.procs.all okPr = true := by
  unfold okPg at h
  rw [Bool.and_eq_true, Bool.and_eq_true, Bool.and_eq_true, decide_eq_true_eq] at h
  exact ⟨h.1.2, h.2⟩
theorem okPr_quiet {p : Pg} (h : okPg p = true) {k : Nat} (hk : k < p.procs.length) : quietGs p.procs[k].body := by
  have := List.all_eq_true.1 (okPg_procs h).2 _ (List.getElem_mem hk)
  unfold okPr at this
  rw [Bool.and_eq_true] at this
  exact quiet_fit this.2
/-- a name that stands twice -/
def twiceS (ss : List ByteArray) : Bool := !decide ss.Nodup
theorem twice_yes {ss : List ByteArray} (h : ¬ ss.Nodup) : twiceS ss = true := by simp [twiceS, h]
theorem twice_no {ss : List ByteArray} (h : ss.Nodup) : twiceS ss = false := by simp [twiceS, h]
theorem nodup_next {ss : List ByteArray} {k : Nat} (hk : k < ss.length) (h : (ss.take k).Nodup) (hn : hasS (ss.take k) ss[k] = false) : (ss.take (k + 1)).Nodup := by
  have e : ss.take (k + 1) = ss.take k ++ [ss[k]] := List.take_succ_eq_append_getElem hk
  rw [e, List.nodup_append]
  refine ⟨h, by simp, ?_⟩
  intro a ha b hb hab
  rw [List.mem_singleton] at hb
  subst hb; subst hab
  rw [has_iff.2 ha] at hn; cases hn
theorem nodup_hit {ss : List ByteArray} {k : Nat} (hk : k < ss.length) (hn : hasS (ss.take k) ss[k] = true) : ¬ ss.Nodup := by
  intro h
  have h2 := h.sublist (List.take_sublist (k + 1) ss)
  have e : ss.take (k + 1) = ss.take k ++ [ss[k]] := List.take_succ_eq_append_getElem hk
  rw [e, List.nodup_append] at h2
  exact h2.2.2 _ (has_iff.1 hn) _ (List.mem_singleton.2 rfl) rfl
theorem nodup_hit2 {ss : List ByteArray} {k : Nat} (hk : k < ss.length) (hn : hasS (ss.drop (k + 1)) ss[k] = true) : ¬ ss.Nodup := by
  intro h
  have h2 := h.sublist (List.drop_sublist k ss)
  rw [List.drop_eq_getElem_cons hk, List.nodup_cons] at h2
  exact h2.1 (has_iff.1 hn)
theorem nodup_all (ss : List ByteArray) (h : ∀ j (hj : j < ss.length), hasS (ss.drop (j + 1)) ss[j] = false) : ss.Nodup := by
  induction ss with
  | nil => simp
  | cons x r ih =>
    rw [List.nodup_cons]
    refine ⟨fun hx => ?_, ih fun j hj => ?_⟩
    · have := h 0 (by simp)
      simp only [List.drop_succ_cons, List.drop_zero, List.getElem_cons_zero] at this
      rw [has_iff.2 hx] at this; cases this
    · have := h (j + 1) (by simpa using hj)
      simpa using this
end Go.Proofs.Ytkipkincggajcaa
