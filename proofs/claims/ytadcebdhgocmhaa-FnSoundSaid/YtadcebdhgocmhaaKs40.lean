/- Several texts in one: ProcAt, Unk. -/
import Derived.Test.YtadcebdhgocmhaaKs20
import Derived.Test.YtadcebdhgocmhaaKs26
import Derived.Test.YtadcebdhgocmhaaKs38
import Derived.Test.YtadcebdhgocmhaaKs39
namespace Go.Proofs.Ytadcebdhgocmhaa
open Go.RowKit
set_option linter.unusedVariables false


def pnames (l : List Pr) : List ByteArray := l.map Pr.name
theorem pnames_len (l : List Pr) : (pnames l).length = l.length := by simp [pnames]
theorem pnames_get (l : List Pr) (i : Nat) (h : i < l.length) (h' : i < (pnames l).length) : (pnames l)[i] = l[i].name := by simp [pnames]
set_option maxHeartbeats 800000 in
theorem spec_ProcAt (p : Pg) (x : V3) (nm : ByteArray) (w : World) (hp : PgIs w x p) :
    Calls Try.prog 34 #[x.val p, .string nm] w fun e w' => e = .returned (.int .i64 (placeS (pnames p.procs) nm)) ∧ Below w.heap.size w w' := by
  obtain ⟨gs, ls, ps⟩ := p
  obtain ⟨gA, gc, lA, lc, pA, pc⟩ := x
  have RW := Lib.hid hp.p3
  have hpl := hp.p1
  have hpc := hp.p2
  simp only at RW hpl hpc
  unfold maxLen at hpc
  unfold V3.val
  simp only
  clear hp
  go_enter Try.func34, Try.ntmps34
  go_wp2_with fail
  go_loopw [5] (fun i wr => ∃ k : Nat, k ≤ ps.length ∧ i = .int .i64 k ∧ wr.cell? ⟨w.heap.size, 2, none⟩ = some (.slice pA ps.length pc) ∧ Below w.heap.size w wr ∧ Hid (∀ s ∈ (pnames ps).take k, s ≠ nm)) (fun i _ => ps.length - (intOf i).toNat)
  case atStart => exact ⟨0, Nat.zero_le _, rfl, by simp, (by repeat' (first | exact Below.refl _ _ | exact Nat.le_refl _ | (refine Below.alloc ?_ ?_ _) | (refine Below.setCell ?_ ?_ _) | (refine Below.drew ?_) | (refine below_drewN ?_ _) | assumption | (simp; done) | (simp; omega))), Lib.hid (by simp)⟩
  case round =>
    obtain ⟨k, hk, rfl, x2, hb, HT⟩ := hrel
    have HB := Lib.hid hb
    clear hb
    have hnl := pnames_len ps
    by_cases hlt : k < ps.length
    · obtain ⟨b, off, x, rfl, d0, d1, hpr⟩ := rd_proc (RW.out.belowA HB.out) hlt
      have hlt' : k < (pnames ps).length := by omega
      have hn : (pnames ps)[k] = x.s := by rw [pnames_get ps k hlt]; exact hpr.1
      have h0k : (0 : Int) ≤ (k : Int) := by omega
      have q := str_eq x.s nm
      clear hpr d1
      by_cases e : x.s = nm
      · have P := Lib.hid (placeS_at HT.out hlt' (hn.trans e))
        rw [decide_eq_true e] at q
        clear e hn
        go_wp2_with fail
        go_ret
        exact ⟨ret_int P.out.symm, HB.out⟩
      · have T := Lib.hid (take_all_succ HT.out hlt' (fun h => e (hn.symm.trans h)))
        rw [decide_no e] at q
        clear e hn
        go_wp2_with fail
        go_roundw
        case rel => exact ⟨k + 1, by omega, by go_num, x2, HB.out, Lib.hid T.out⟩
        case measure => simp [intOf]; omega
    · have P := Lib.hid (placeS_no (ss := pnames ps) (x := nm) (by have := HT.out; rwa [List.take_of_length_le (by omega)] at this))
      go_wp2_with fail
      go_ret
      exact ⟨ret_int P.out.symm, HB.out⟩
set_option maxHeartbeats 800000 in
theorem impl_procNames (p : Pg) (x : V3) (w : World) (hp : PgIs w x p) (hb : p.procs.length ≤ 10000000) :
    Calls Try.prog 27 #[x.val p] w fun e w' => ∃ A' c', e = .returned (.slice A' (pnames p.procs).length c') ∧ OwnStrs w w' (.slice A' (pnames p.procs).length c') (pnames p.procs) := by
  obtain ⟨gs, ls, ps⟩ := p
  obtain ⟨gA, gc, lA, lc, pA, pc⟩ := x
  have RW := Lib.hid hp.p3
  have hpl := hp.p1
  have hpc := hp.p2
  simp only at RW hpl hpc hb
  unfold maxLen at hpc
  unfold V3.val
  simp only
  clear hp
  go_enter Try.func27, Try.ntmps27
  go_wp2_with fail
  go_loopw [3, 9] (fun lv i wr => ∃ k : Nat, k ≤ ps.length ∧ i = .int .i64 k ∧ ∃ A' c', lv = .slice A' (pnames (ps.take k)).length c' ∧ Hid (OwnStrs w wr (.slice A' (pnames (ps.take k)).length c') (pnames (ps.take k)))) (fun _ i _ => ps.length - (intOf i).toNat)
  case atStart => exact ⟨0, Nat.zero_le _, rfl, none, 0, rfl, Lib.hid (OwnStrs.nil (by repeat' (first | exact Below.refl _ _ | exact Nat.le_refl _ | (refine Below.alloc ?_ ?_ _) | (refine Below.setCell ?_ ?_ _) | (refine Below.drew ?_) | (refine below_drewN ?_ _) | assumption | (simp; done) | (simp; omega))))⟩
  case round =>
    obtain ⟨k, hk, rfl, A', c', rfl, HO⟩ := hrel
    have hnl := pnames_len (ps.take k)
    by_cases hlt : k < ps.length
    · obtain ⟨b, off, x, rfl, d0, d1, hpr⟩ := rd_proc (RW.out.belowA HO.out.2) hlt
      have hlb := cell_lt d0
      have HN : Hid (pnames (ps.take (k + 1)) = pnames (ps.take k) ++ [x.s]) := Lib.hid (by
        have e : ps.take (k + 1) = ps.take k ++ [ps[k]] := List.take_succ_eq_append_getElem hlt
        rw [e, ← hpr.1]; unfold pnames; rw [List.map_append]; rfl)
      have h0k : (0 : Int) ≤ (k : Int) := by omega
      have hkl : (pnames (ps.take k)).length ≤ 10000000 := by rw [hnl, List.length_take]; omega
      have OA := Lib.hid (HO.out.alloc (.cells #[.string x.s, .slice x.A x.m x.c] 31))
      clear hpr hnl
      go_wp2_with (at_builtin; refine wpList_app_keepG (wr.heap.size + 1) (by simp) rfl _ _ _ rfl strT OA.out _ 1 rfl rfl rfl (by simp [Value.oneCell']) (by simp only [maxLen]; omega) (by omega) ?_; intro v2 w2 own2 kp2; have O2 : Hid (OwnStrs w w2 v2 (pnames (ps.take (k + 1)))) := Lib.hid (by rw [HN.out]; unfold OwnStrs; rw [List.length_append, ← map_snoc]; exact own2); obtain ⟨A2, c2, rfl, _⟩ := O2.out.slice; clear own2 kp2)
      go_roundw
      case rel => exact ⟨k + 1, by omega, by go_num, A2, c2, rfl, O2⟩
      case measure => simp [intOf]; omega
    · go_wp2_with fail
      go_ret
      have := HO.out
      rw [List.take_of_length_le (by omega)] at this ⊢
      exact ⟨_, _, rfl, this⟩

def headK (gl lo pr : List ByteArray) (k : Int) (acc : List ByteArray) (s : ByteArray) : List ByteArray :=
  if k = 1 then addUnk gl acc s else if k = 6 ∨ k = 7 then addUnk lo acc s else if k = 4 ∨ k = 5 then addUnk pr acc s else acc
def readK (gl acc reads : List ByteArray) : List ByteArray := reads.foldl (addUnk gl) acc
theorem readK_nil (gl acc : List ByteArray) : readK gl acc [] = acc := rfl
theorem readK_take (gl acc reads : List ByteArray) (m : Nat) (h : m < reads.length) : readK gl acc (reads.take (m + 1)) = addUnk gl (readK gl acc (reads.take m)) reads[m] := by
  have e : reads.take (m + 1) = reads.take m ++ [reads[m]] := List.take_succ_eq_append_getElem h
  unfold readK
  rw [e, List.foldl_append]; rfl
theorem readK_len (gl acc reads : List ByteArray) : (readK gl acc reads).length ≤ acc.length + reads.length := by
  induction reads generalizing acc with
  | nil => simp [readK]
  | cons x r ih =>
    have h1 := addUnk_len gl acc x
    have h2 := ih (addUnk gl acc x)
    have h3 : readK gl acc (x :: r) = readK gl (addUnk gl acc x) r := rfl
    rw [h3, List.length_cons]; omega
theorem headK_len (gl lo pr : List ByteArray) (k : Int) (acc : List ByteArray) (s : ByteArray) : (headK gl lo pr k acc s).length ≤ acc.length + 1 := by
  unfold headK
  have h1 := addUnk_len gl acc s
  have h2 := addUnk_len lo acc s
  have h3 := addUnk_len pr acc s
  repeat' split
  all_goals omega
mutual
def unkG (gl lo pr acc : List ByteArray) : St → List ByteArray
  | .mk k s t b e => unkGs gl lo pr (unkGs gl lo pr (readK gl (headK gl lo pr k acc s) (readsR t)) b) e
def unkGs (gl lo pr acc : List ByteArray) : List St → List ByteArray
  | [] => acc
  | g :: r => unkGs gl lo pr (unkG gl lo pr acc g) r
end
theorem unkG_mk (gl lo pr acc : List ByteArray) (k : Int) (s : ByteArray) (t : Tm) (b e : List St) : unkG gl lo pr acc (.mk k s t b e) = unkGs gl lo pr (unkGs gl lo pr (readK gl (headK gl lo pr k acc s) (readsR t)) b) e := by rw [unkG]
theorem unkGs_append (gl lo pr acc : List ByteArray) (l r : List St) : unkGs gl lo pr acc (l ++ r) = unkGs gl lo pr (unkGs gl lo pr acc l) r := by
  induction l generalizing acc with
  | nil => simp [unkGs]
  | cons t l ih => rw [List.cons_append, unkGs, unkGs, ih]
theorem unkGs_take (gl lo pr acc : List ByteArray) (l : List St) (j : Nat) (h : j < l.length) : unkGs gl lo pr acc (l.take (j + 1)) = unkG gl lo pr (unkGs gl lo pr acc (l.take j)) l[j] := by
  have e : l.take (j + 1) = l.take j ++ [l[j]] := List.take_succ_eq_append_getElem h
  rw [e, unkGs_append]; simp [unkGs]
mutual
theorem unkG_len (gl lo pr acc : List ByteArray) : (g : St) → (unkG gl lo pr acc g).length ≤ acc.length + 2 * (1 + totG g)
  | .mk k s t b e => by
    rw [unkG_mk, totG]
    have h1 := headK_len gl lo pr k acc s
    have h2 := readK_len gl (headK gl lo pr k acc s) (readsR t)
    have h3 := readsR_len t
    have h4 := nodes_tot t
    have h5 := unkGs_len gl lo pr (readK gl (headK gl lo pr k acc s) (readsR t)) b
    have h6 := unkGs_len gl lo pr (unkGs gl lo pr (readK gl (headK gl lo pr k acc s) (readsR t)) b) e
    omega
theorem unkGs_len (gl lo pr acc : List ByteArray) : (l : List St) → (unkGs gl lo pr acc l).length ≤ acc.length + 2 * totGs l
  | [] => by rw [unkGs, totGs]; omega
  | g :: r => by
    rw [unkGs, totGs]
    have h1 := unkG_len gl lo pr acc g
    have h2 := unkGs_len gl lo pr (unkG gl lo pr acc g) r
    omega
end
theorem totGs_split (l : List St) (j : Nat) (h : j < l.length) : totGs (l.take j) + (1 + totG l[j]) ≤ totGs l := by
  have e : totGs l = totGs (l.take j) + totGs (l.drop j) := by rw [← totGs_append, List.take_append_drop]
  rw [List.drop_eq_getElem_cons h, totGs] at e
  omega
mutual
def quietG : St → Prop
  | .mk k _ t b e => (k ≠ 1 → k ≠ 2 → k ≠ 3 → readsR t = []) ∧ quietGs b ∧ quietGs e
def quietGs : List St → Prop
  | [] => True
  | g :: r => quietG g ∧ quietGs r
end
theorem quietGs_mem {l : List St} (h : quietGs l) {g : St} (hg : g ∈ l) : quietG g := by
  induction l with
  | nil => cases hg
  | cons y r ih =>
    rw [quietGs] at h
    rcases List.mem_cons.1 hg with rfl | hg
    · exact h.1
    · exact ih h.2 hg
theorem quietGs_of {l : List St} (h : ∀ g ∈ l, quietG g) : quietGs l := by
  induction l with
  | nil => rw [quietGs]; trivial
  | cons y r ih => rw [quietGs]; exact ⟨h y (by simp), ih fun g hg => h g (by simp [hg])⟩
theorem rightGs_mem {deep : Nat} {l : List St} (h : rightGs deep l = true) {g : St} (hg : g ∈ l) : rightG deep g = true := by
  induction l with
  | nil => cases hg
  | cons y r ih =>
    rw [rightGs, Bool.and_eq_true] at h
    rcases List.mem_cons.1 hg with rfl | hg
    · exact h.1
    · exact ih h.2 hg
theorem readsR_zero : readsR zeroTm = [] := by
  apply readsR_no
  unfold zeroTm
  rw [okT_more (by decide) (by decide)]
  rfl
theorem snodess_nil {l : List St} (h : snodess l = 0) : l = [] := by
  cases l with
  | nil => rfl
  | cons g r =>
    obtain ⟨k, s, t, b, e⟩ := g
    rw [snodess, snodes] at h; omega
theorem shape_zero {k : Int} {s : ByteArray} {t : Tm} {b e : List St} (h : shapeG (.mk k s t b e) = true) (h1 : k ≠ 1) (h2 : k ≠ 2) (h3 : k ≠ 3) : t = zeroTm := by
  simp only [shapeG, shapeB] at h
  rw [if_neg h1, if_neg h2, if_neg h3] at h
  by_cases c4 : k = 4 ∨ k = 5 ∨ k = 6 ∨ k = 7
  · rw [if_pos c4] at h; simp only [Bool.and_eq_true] at h; exact sameB_true h.1.1.2
  · rw [if_neg c4] at h
    by_cases c8 : k = 8
    · rw [if_pos c8] at h; simp only [Bool.and_eq_true] at h; exact sameB_true h.1.1.2
    · rw [if_neg c8] at h; cases h
theorem quiet_right (l : List St) : ∀ deep, rightGs deep l = true → quietGs l := by
  induction hN : snodess l using Nat.strongRecOn generalizing l with
  | ind N ih =>
    intro deep h
    refine quietGs_of fun g hg => ?_
    have hr := rightGs_mem h hg
    have hlt := snodess_le hg
    obtain ⟨k, s, t, b, e⟩ := g
    rw [snodes] at hlt
    cases hs : shapeG (.mk k s t b e) with
    | false => rw [rightG_shape hs] at hr; cases hr
    | true =>
      rw [quietG]
      refine ⟨fun h1 h2 h3 => by rw [shape_zero hs h1 h2 h3]; exact readsR_zero, ?_⟩
      cases hm : manyB k with
      | false =>
        have h1 := plain_one hs hm
        rw [snodes] at h1
        rw [snodess_nil (l := b) (by omega), snodess_nil (l := e) (by omega)]
        exact ⟨by rw [quietGs]; trivial, by rw [quietGs]; trivial⟩
      | true =>
        rw [rightG_many hs hm, Bool.and_eq_true, Bool.and_eq_true] at hr
        exact ⟨ih _ (by omega) b rfl _ hr.1.2, ih _ (by omega) e rfl _ hr.2⟩
theorem quiet_fit {deep room : Nat} {l : List St} (h : fitGs deep room l = true) : quietGs l := quiet_right l deep (fit_inv h).1
/-- the names that a right program lacks -/
def unkP (gl lo pr : List ByteArray) (l : List Pr) : List ByteArray := l.foldl (fun acc q => unkGs gl lo pr acc q.body) []
theorem unkP_take (gl lo pr : List ByteArray) (l : List Pr) (k : Nat) (h : k < l.length) : unkP gl lo pr (l.take (k + 1)) = unkGs gl lo pr (unkP gl lo pr (l.take k)) l[k].body := by
  have e : l.take (k + 1) = l.take k ++ [l[k]] := List.take_succ_eq_append_getElem h
  unfold unkP
  rw [e, List.foldl_append]; rfl
theorem unkP_len (gl lo pr : List ByteArray) (l : List Pr) (k : Nat) : (unkP gl lo pr (l.take k)).length ≤ 2 * totPrs (l.take k) := by
  induction k with
  | zero => simp [unkP]
  | succ k ih =>
    by_cases h : k < l.length
    · rw [unkP_take _ _ _ _ _ h, totPrs_take _ _ h]
      have h1 := unkGs_len gl lo pr (unkP gl lo pr (l.take k)) l[k].body
      have h2 : totPr l[k] = l[k].name.size + totGs l[k].body := rfl
      omega
    · rw [List.take_of_length_le (by omega)]
      rw [List.take_of_length_le (by omega)] at ih
      exact ih
theorem totPrs_take_le (l : List Pr) (k : Nat) : totPrs (l.take k) ≤ totPrs l := by
  have e : totPrs l = totPrs (l.take k) + totPrs (l.drop k) := by rw [← totPrs_append, List.take_append_drop]
  omega
noncomputable def unkR (p : Pg) : List ByteArray := if okPg p = true then unkP p.globals p.locks (pnames p.procs) p.procs else []
theorem unkR_yes {p : Pg} (h : okPg p = true) : unkR p = unkP p.globals p.locks (pnames p.procs) p.procs := by simp [unkR, h]
theorem unkR_no {p : Pg} (h : okPg p = false) : unkR p = [] := by simp [unkR, h]
theorem okPg_procs {p : Pg} (h : okPg p = true) : p.procs.length ≤ 8 ∧ p.procs.all okPr = true := by
  unfold okPg at h
  rw [Bool.and_eq_true, Bool.and_eq_true, Bool.and_eq_true, decide_eq_true_eq] at h
  exact ⟨h.1.2, h.2⟩
theorem okPr_quiet {p : Pg} (h : okPg p = true) {k : Nat} (hk : k < p.procs.length) : quietGs p.procs[k].body := by
  have := List.all_eq_true.1 (okPg_procs h).2 _ (List.getElem_mem hk)
  unfold okPr at this
  rw [Bool.and_eq_true] at this
  exact quiet_fit this.2
end Go.Proofs.Ytadcebdhgocmhaa
