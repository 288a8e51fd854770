/- Several texts in one: ReadsLaw, NamesIn. -/
import Derived.Test.YtadcebdhgocmhaaKs20
import Derived.Test.YtadcebdhgocmhaaKs12
import Derived.Test.YtadcebdhgocmhaaKs24
import Derived.Test.YtadcebdhgocmhaaKs23
import Derived.Test.YtadcebdhgocmhaaKs25
import Derived.Test.YtadcebdhgocmhaaKs18
namespace Go.Proofs.Ytadcebdhgocmhaa
open Go.RowKit
set_option linter.unusedVariables false


def readsR (t : Tm) : List ByteArray := if okT 6 t = true then readsT [] t else []
theorem readsR_yes {t : Tm} (h : okT 6 t = true) : readsR t = readsT [] t := by simp [readsR, h]
theorem readsR_no {t : Tm} (h : okT 6 t = false) : readsR t = [] := by simp [readsR, h]
theorem readsR_len (t : Tm) : (readsR t).length ≤ nodes t := by
  unfold readsR
  split
  · have := readsT_len [] t; simpa using this
  · simp
theorem OwnStrs.nil {w0 w : World} (h : Below w0.heap.size w0 w) : OwnStrs w0 w (.slice none 0 0) [] := Own.startB h _ _
theorem OwnStrs.empty {w0 w : World} (h : Below w0.heap.size w0 w) : OwnStrs w0 (w.alloc (.cells #[] 9)) (.slice (some ⟨w.heap.size, 0, none⟩) 0 0) [] := Own.lit h _ 1 0 #[] (by simp [maxLen]) rfl
theorem OwnStrs.base {w0 w1 w : World} {v : Value} {ss : List ByteArray} (h : OwnStrs w1 w v ss) (hb : Below w0.heap.size w0 w1) : OwnStrs w0 w v ss := by
  refine ⟨⟨h.1.1, ?_⟩, hb.trans (h.2.mono hb.size)⟩
  rcases h.1.2 with h' | ⟨g, cap, cur, e, hg, r⟩
  · exact .inl h'
  · exact .inr ⟨g, cap, cur, e, Nat.le_trans hb.size hg, r⟩
theorem OwnStrs.keepS {w0 w w' : World} {v : Value} {ss : List ByteArray} {S : Nat → Prop} (h : OwnStrs w0 w v ss) (hk : Keep S w w') (hv : ∀ b, v.ownBlock = some b → S b) (hs : ∀ b, b < w0.heap.size → S b) : OwnStrs w0 w' v ss := by
  refine ⟨⟨h.1.1, ?_⟩, h.2.trans (hk.below h.2.size hs)⟩
  rcases h.1.2 with h' | ⟨g, cap, cur, rfl, hg, hh, r⟩
  · exact .inl h'
  · exact .inr ⟨g, cap, cur, rfl, hg, (hk.block g (lt_of_block hh) (hv g rfl)).trans hh, r⟩
theorem OwnStrs.inB {w0 w : World} {v : Value} {ss : List ByteArray} (h : OwnStrs w0 w v ss) : ∀ b, v.ownBlock = some b → w0.heap.size ≤ b ∧ b < w.heap.size := fun b hb => h.1.lt b hb
set_option maxHeartbeats 400000 in
theorem spec_ReadsOf (t : Tm) (k n : Int) (s : ByteArray) (A : Option Addr) (m c : Nat) (w : World) (ht : TmIs AnyB w [.int .i64 k, .int .i64 n, .string s, .slice A m c] t) (hb : nodes t ≤ 10000000) :
    Calls Try.prog 80 #[.agg #[.int .i64 k, .int .i64 n, .string s, .slice A m c]] w fun e w' => ∃ v', e = .returned v' ∧ OwnStrs w w' v' (readsR t) := by
  have HT := Lib.hid ht
  clear ht
  cases h : okT 6 t with
  | false =>
    rw [readsR_no h]
    go_enter Try.func80, Try.ntmps80
    go_wp2_with fail
    refine (spec_TermOk t k n s A m c _ (HT.out.belowA (by repeat' (first | exact Below.refl _ _ | exact Nat.le_refl _ | (refine Below.alloc ?_ ?_ _) | (refine Below.setCell ?_ ?_ _) | (refine Below.drew ?_) | (refine below_drewN ?_ _) | assumption | (simp; done) | (simp; omega))))).mono ?_
    rintro e w1 ⟨rfl, b1⟩
    have B1 : Hid (Below w.heap.size w w1) := Lib.hid (Below.trans (by repeat' (first | exact Below.refl _ _ | exact Nat.le_refl _ | (refine Below.alloc ?_ ?_ _) | (refine Below.setCell ?_ ?_ _) | (refine Below.drew ?_) | (refine below_drewN ?_ _) | assumption | (simp; done) | (simp; omega))) (b1.mono (by simp)))
    rw [h]
    clear b1
    go_wp2_with fail
    go_ret
    exact ⟨_, rfl, OwnStrs.empty B1.out⟩
  | true =>
    rw [readsR_yes h]
    go_enter Try.func80, Try.ntmps80
    go_wp2_with fail
    refine (spec_TermOk t k n s A m c _ (HT.out.belowA (by repeat' (first | exact Below.refl _ _ | exact Nat.le_refl _ | (refine Below.alloc ?_ ?_ _) | (refine Below.setCell ?_ ?_ _) | (refine Below.drew ?_) | (refine below_drewN ?_ _) | assumption | (simp; done) | (simp; omega))))).mono ?_
    rintro e w1 ⟨rfl, b1⟩
    have B1 : Hid (Below w.heap.size w w1) := Lib.hid (Below.trans (by repeat' (first | exact Below.refl _ _ | exact Nat.le_refl _ | (refine Below.alloc ?_ ?_ _) | (refine Below.setCell ?_ ?_ _) | (refine Below.drew ?_) | (refine below_drewN ?_ _) | assumption | (simp; done) | (simp; omega))) (b1.mono (by simp)))
    have X1 : Box4 w1 w.heap.size (vt k n s A m c) := Box4.below (Box4.lit rfl) b1
    obtain ⟨p0, p1, p2, p3⟩ := X1
    simp only [vt] at p0 p1 p2 p3
    have hz := cell_lt p0
    rw [h]
    clear b1
    go_wp2_with fail
    refine (spec_l03Reads t k n s A m c w _ _ [] HT.out (OwnStrs.empty B1.out) (by simpa using hb)).mono ?_
    rintro e w2 ⟨v2, rfl, own2, kp2⟩
    have O2 := Lib.hid own2
    obtain ⟨A2, c2, rfl, _⟩ := own2.slice
    clear own2 kp2
    go_wp2_with fail
    go_ret
    exact ⟨_, rfl, O2.out⟩
set_option maxHeartbeats 400000 in
theorem impl_ReadsOf (t : Tm) (k n : Int) (s : ByteArray) (A : Option Addr) (m c : Nat) (w : World) (ht : TmIs AnyB w [.int .i64 k, .int .i64 n, .string s, .slice A m c] t) (hb : nodes t ≤ 10000000) :
    Calls Try.prog 73 #[.agg #[.int .i64 k, .int .i64 n, .string s, .slice A m c]] w fun e w' => ∃ v', e = .returned v' ∧ OwnStrs w w' v' (readsR t) := by
  have HT := Lib.hid ht
  clear ht
  cases h : okT 6 t with
  | false =>
    rw [readsR_no h]
    go_enter Try.func73, Try.ntmps73
    go_wp2_with fail
    refine (impl_TermOk t k n s A m c _ (HT.out.belowA (by repeat' (first | exact Below.refl _ _ | exact Nat.le_refl _ | (refine Below.alloc ?_ ?_ _) | (refine Below.setCell ?_ ?_ _) | (refine Below.drew ?_) | (refine below_drewN ?_ _) | assumption | (simp; done) | (simp; omega))))).mono ?_
    rintro e w1 ⟨rfl, b1⟩
    have B1 : Hid (Below w.heap.size w w1) := Lib.hid (Below.trans (by repeat' (first | exact Below.refl _ _ | exact Nat.le_refl _ | (refine Below.alloc ?_ ?_ _) | (refine Below.setCell ?_ ?_ _) | (refine Below.drew ?_) | (refine below_drewN ?_ _) | assumption | (simp; done) | (simp; omega))) (b1.mono (by simp)))
    rw [h]
    clear b1
    go_wp2_with fail
    go_ret
    exact ⟨_, rfl, OwnStrs.nil B1.out⟩
  | true =>
    rw [readsR_yes h]
    go_enter Try.func73, Try.ntmps73
    go_wp2_with fail
    refine (impl_TermOk t k n s A m c _ (HT.out.belowA (by repeat' (first | exact Below.refl _ _ | exact Nat.le_refl _ | (refine Below.alloc ?_ ?_ _) | (refine Below.setCell ?_ ?_ _) | (refine Below.drew ?_) | (refine below_drewN ?_ _) | assumption | (simp; done) | (simp; omega))))).mono ?_
    rintro e w1 ⟨rfl, b1⟩
    have B1 : Hid (Below w.heap.size w w1) := Lib.hid (Below.trans (by repeat' (first | exact Below.refl _ _ | exact Nat.le_refl _ | (refine Below.alloc ?_ ?_ _) | (refine Below.setCell ?_ ?_ _) | (refine Below.drew ?_) | (refine below_drewN ?_ _) | assumption | (simp; done) | (simp; omega))) (b1.mono (by simp)))
    have X1 : Box4 w1 w.heap.size (vt k n s A m c) := Box4.below (Box4.lit rfl) b1
    obtain ⟨p0, p1, p2, p3⟩ := X1
    simp only [vt] at p0 p1 p2 p3
    rw [h]
    clear b1
    go_wp2_with fail
    refine (impl_addReads t k n s A m c w _ _ [] HT.out (OwnStrs.nil B1.out) (by simpa using hb)).mono ?_
    rintro e w2 ⟨v2, rfl, own2, kp2⟩
    have O2 := Lib.hid own2
    obtain ⟨A2, c2, rfl, _⟩ := own2.slice
    clear own2 kp2
    go_wp2_with fail
    go_ret
    exact ⟨_, rfl, O2.out⟩

abbrev CdC (l : List St) : Prop := ∀ (A : Option Addr) (c : Nat) (left : Int) (w : World), StRow AnyB w A l → l.length ≤ c → c ≤ maxLen → -1 ≤ left → left ≤ 1048576 → Calls Try.prog 64 #[.slice A l.length c, .int .i64 left] w fun e w' => e = .returned (.int .i64 (cut0 (left - (snodess l : Int)))) ∧ Qt w w'
theorem cut0_eq (n : Int) : cut0 n = if n < 0 then -1 else n := by
  by_cases h : n < 0
  · rw [if_pos h, cut0_neg h]
  · rw [if_neg h, cut0_pos (by omega)]
theorem cut0_sub (a b : Int) (hb : 0 ≤ b) : cut0 (cut0 a - b) = cut0 (a - b) := by
  rw [cut0_eq, cut0_eq a, cut0_eq (a - b)]
  repeat' split
  all_goals omega
theorem cut0_le {a : Int} : -1 ≤ cut0 a ∧ (0 ≤ a → cut0 a = a) ∧ (a < 0 → cut0 a = -1) := by
  rw [cut0_eq]
  split <;> omega
set_option maxHeartbeats 800000 in
theorem spec_l04Count_at (l : List St) (ih : ∀ g ∈ l, ∀ t k s body els, g = .mk k s t body els → CdC body ∧ CdC els) : CdC l := by
  intro A c left w row hl hc h0 h1
  unfold maxLen at hc
  have IH := Lib.hid ih
  have RW := Lib.hid row
  clear ih row
  go_enter Try.func64, Try.ntmps64
  go_wp2_with fail
  go_loopw [1, 5] (fun n i wr => ∃ j : Nat, j ≤ l.length ∧ i = .int .i64 j ∧ (∃ m : Int, -1 ≤ m ∧ m ≤ 1048576 ∧ n = .int .i64 m ∧ Hid (m = cut0 (left - (snodess (l.take j) : Int)))) ∧ Hid (Qt w wr)) (fun _ i _ => l.length - (intOf i).toNat)
  case atStart => exact ⟨0, Nat.zero_le _, rfl, ⟨left, h0, h1, rfl, Lib.hid (by simp only [List.take_zero, snodess]; rw [cut0_eq]; split <;> omega)⟩, Lib.hid (Qt.refl _)⟩
  case round =>
    obtain ⟨j, hj, rfl, ⟨m, hm1, hm2, rfl, HM⟩, HQ⟩ := hrel
    by_cases hlt : j < l.length
    case neg =>
      have hd : decide ((j : Int) < (l.length : Int)) = false := decide_no (by omega)
      go_wp2_with fail
      go_ret
      exact ⟨ret_int (by rw [HM.out, List.take_of_length_le (by omega)]), HQ.out⟩
    have hd : decide ((j : Int) < (l.length : Int)) = true := decide_eq_true (by omega)
    have hle := snodess_take_le l j
    by_cases hm : 0 ≤ m
    case neg =>
      have hd2 : decide (0 ≤ m) = false := decide_no hm
      have hm' : ¬ (0 ≤ m) := hm
      have HE : Hid (m = cut0 (left - (snodess l : Int))) := Lib.hid (by
        have := HM.out
        have q := @cut0_le (left - (snodess (l.take j) : Int))
        have q2 := @cut0_le (left - (snodess l : Int))
        omega)
      go_wp2_with fail
      go_ret
      exact ⟨ret_int HE.out, HQ.out⟩
    obtain ⟨b, off, x, rfl, _, ⟨d0, d1, d2, d3, d4, d5, d6, d7⟩, hg⟩ := rd_stmt (RW.out.qt HQ.out) hlt
    obtain ⟨t, body, els, heq, _, _, _, hb1, hb2, hb3, rb, he1, he2, he3, re⟩ := hg.inv
    have VB := Lib.hid (IH.out l[j] (List.getElem_mem hlt) t _ _ body els heq).1
    have VE := Lib.hid (IH.out l[j] (List.getElem_mem hlt) t _ _ body els heq).2
    have hsg : snodes l[j] = 1 + snodess body + snodess els := by rw [heq, snodes]
    have hst := snodess_take l j hlt
    have hle2 := snodess_take_le l (j + 1)
    have q1 := @cut0_le (m - 1 - (snodess body : Int))
    have HR : Hid (cut0 (cut0 (m - 1 - (snodess body : Int)) - (snodess els : Int)) = cut0 (left - (snodess (l.take (j + 1)) : Int))) := Lib.hid (by
      rw [cut0_sub _ _ (by omega)]
      have := HM.out
      have q := @cut0_le (left - (snodess (l.take j) : Int))
      have e : m = left - (snodess (l.take j) : Int) := by omega
      rw [e, hst, hsg]
      congr 1
      push_cast
      omega)
    have RB := Lib.hid rb
    have RE := Lib.hid re
    obtain ⟨xk, xs, tk, tn, ts, tA, tm, tc, bA, bm, bc, eA, em, ec⟩ := x
    simp only at hb1 he1 hb2 hb3 he2 he3 d6 d7 RB RE
    subst hb1 he1
    have h0k : (0 : Int) ≤ (j : Int) := by omega
    have h1k : (j : Int) < (l.length : Int) := by omega
    have b1 : cut0 (m - 1 - (snodess body : Int)) ≤ 1048576 := by omega
    have b2 := q1.1
    have b3 := @cut0_le (cut0 (m - 1 - (snodess body : Int)) - (snodess els : Int))
    have b4 : cut0 (cut0 (m - 1 - (snodess body : Int)) - (snodess els : Int)) ≤ 1048576 := by omega
    have B3 := Lib.hid b3.1
    have Q1 := Lib.hid q1
    have B4 := Lib.hid b4
    have w1 : IntKind.i64.wrap (m - 1) = m - 1 := IntWalk.i64_in _ (by omega)
    have hd2 : decide (0 ≤ m) = true := decide_eq_true hm
    clear hst hsg heq hg rb re d0 d1 d2 d3 d4 d5 hle2 q1 b3 b4
    go_wp2_with fail
    go_quiet ((first | (go_at_call 64; with_reducible exact quiet_qt (VB.out bA bc _ _ (RB.out.drewN _) hb2 hb3 (by omega) (by omega))) | (go_at_call 64; with_reducible exact quiet_qt (VE.out eA ec _ _ (RE.out.drewN _) he2 he3 b2 b1))))
    clear w1
    go_wp2_with fail
    go_roundw
    case rel => exact ⟨j + 1, by omega, by go_num, ⟨_, B3.out, B4.out, rfl, Lib.hid HR.out⟩, Lib.hid (HQ.out.trans (Qt.of_drewN _ _))⟩
    case measure => simp [intOf]; omega
theorem spec_l04Count (l : List St) : CdC l := by
  induction hN : snodess l using Nat.strongRecOn generalizing l with
  | ind N ih =>
    refine spec_l04Count_at l fun g hg t k s body els e => ?_
    have := snodess_le hg
    have h2 : snodes g = 1 + snodess body + snodess els := by rw [e, snodes]
    exact ⟨ih _ (by omega) body rfl, ih _ (by omega) els rfl⟩
theorem snodess_split (l : List St) (j : Nat) (h : j < l.length) : snodess (l.take j) + snodes l[j] ≤ snodess l := by
  have e : snodess l = snodess (l.take j) + snodess (l.drop j) := by rw [← snodess_append, List.take_append_drop]
  rw [List.drop_eq_getElem_cons h, snodess] at e
  omega
end Go.Proofs.Ytadcebdhgocmhaa
