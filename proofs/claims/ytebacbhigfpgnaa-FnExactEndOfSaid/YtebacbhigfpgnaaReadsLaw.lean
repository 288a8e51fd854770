/- ReadsOf in the reference and in the program, and the law over them. -/
import Derived.Test.YtebacbhigfpgnaaReads
import Derived.Test.YtebacbhigfpgnaaTermOkLaw
import Derived.Test.YtebacbhigfpgnaaTermMark
namespace Go.Proofs.Ytebacbhigfpgnaa
open Go.RowKit
set_option linter.unusedVariables false

def readsR (t : Tm) : List ByteArray := if okT 6 t = true then readsT [] t else []
theorem readsR_yes {t : Tm} (h : okT 6 t = true) : readsR t = readsT [] t := by simp [readsR, h]
theorem readsR_no {t : Tm} (h : okT 6 t = false) : readsR t = [] := by simp [readsR, h]
theorem readsR_len (t : Tm) : (readsR t).length ≤ nodes t := by
  unfold readsR
  split
  · have := readsT_len [] t; simpa using this
  · simp
theorem OwnStrs.nil {w0 w : World} (h : Below w0.heap.size w0 w) : OwnStrs w0 w (.slice none 0 0) [] := Own.startB h _ _
theorem OwnStrs.empty {w0 w : World} (h : Below w0.heap.size w0 w) : OwnStrs w0 (w.alloc (.cells #[] 9)) (.slice (some ⟨w.heap.size, 0, none⟩) 0 0) [] := Own.lit h _ 1 0 #[] (by simp [maxLen]) rfl
theorem OwnStrs.base {w0 w1 w : World} {v : Value} {ss : List ByteArray} (h : OwnStrs w1 w v ss) (hb : Below w0.heap.size w0 w1) : OwnStrs w0 w v ss := by
  refine ⟨⟨h.1.1, ?_⟩, hb.trans (h.2.mono hb.size)⟩
  rcases h.1.2 with h' | ⟨g, cap, cur, e, hg, r⟩
  · exact .inl h'
  · exact .inr ⟨g, cap, cur, e, Nat.le_trans hb.size hg, r⟩
theorem OwnStrs.keepS {w0 w w' : World} {v : Value} {ss : List ByteArray} {S : Nat → Prop} (h : OwnStrs w0 w v ss) (hk : Keep S w w') (hv : ∀ b, v.ownBlock = some b → S b) (hs : ∀ b, b < w0.heap.size → S b) : OwnStrs w0 w' v ss := by
  refine ⟨⟨h.1.1, ?_⟩, h.2.trans (hk.below h.2.size hs)⟩
  rcases h.1.2 with h' | ⟨g, cap, cur, rfl, hg, hh, r⟩
  · exact .inl h'
  · exact .inr ⟨g, cap, cur, rfl, hg, (hk.block g (lt_of_block hh) (hv g rfl)).trans hh, r⟩
theorem OwnStrs.inB {w0 w : World} {v : Value} {ss : List ByteArray} (h : OwnStrs w0 w v ss) : ∀ b, v.ownBlock = some b → w0.heap.size ≤ b ∧ b < w.heap.size := fun b hb => h.1.lt b hb
set_option maxHeartbeats 400000 in
theorem spec_ReadsOf (t : Tm) (k n : Int) (s : ByteArray) (A : Option Addr) (m c : Nat) (w : World) (ht : TmIs AnyB w [.int .i64 k, .int .i64 n, .string s, .slice A m c] t) (hb : nodes t ≤ 10000000) :
    Calls Try.prog 92 #[.agg #[.int .i64 k, .int .i64 n, .string s, .slice A m c]] w fun e w' => ∃ v', e = .returned v' ∧ OwnStrs w w' v' (readsR t) := by
  have HT := Lib.hid ht
  clear ht
  cases h : okT 6 t with
  | false =>
    rw [readsR_no h]
    go_enter Try.func92, Try.ntmps92
    go_wp2_with fail
    refine (spec_TermOk t k n s A m c _ (HT.out.belowA (by repeat' (first | exact Below.refl _ _ | exact Nat.le_refl _ | (refine Below.alloc ?_ ?_ _) | (refine Below.setCell ?_ ?_ _) | (refine Below.drew ?_) | (refine below_drewN ?_ _) | assumption | (simp; done) | (simp; omega))))).mono ?_
    rintro e w1 ⟨rfl, b1⟩
    have B1 : Hid (Below w.heap.size w w1) := Lib.hid (Below.trans (by repeat' (first | exact Below.refl _ _ | exact Nat.le_refl _ | (refine Below.alloc ?_ ?_ _) | (refine Below.setCell ?_ ?_ _) | (refine Below.drew ?_) | (refine below_drewN ?_ _) | assumption | (simp; done) | (simp; omega))) (b1.mono (by simp)))
    rw [h]
    clear b1
    go_wp2_with fail
    go_ret
    exact ⟨_, rfl, OwnStrs.empty B1.out⟩
  | true =>
    rw [readsR_yes h]
    go_enter Try.func92, Try.ntmps92
    go_wp2_with fail
    refine (spec_TermOk t k n s A m c _ (HT.out.belowA (by repeat' (first | exact Below.refl _ _ | exact Nat.le_refl _ | (refine Below.alloc ?_ ?_ _) | (refine Below.setCell ?_ ?_ _) | (refine Below.drew ?_) | (refine below_drewN ?_ _) | assumption | (simp; done) | (simp; omega))))).mono ?_
    rintro e w1 ⟨rfl, b1⟩
    have B1 : Hid (Below w.heap.size w w1) := Lib.hid (Below.trans (by repeat' (first | exact Below.refl _ _ | exact Nat.le_refl _ | (refine Below.alloc ?_ ?_ _) | (refine Below.setCell ?_ ?_ _) | (refine Below.drew ?_) | (refine below_drewN ?_ _) | assumption | (simp; done) | (simp; omega))) (b1.mono (by simp)))
    have X1 : Box4 w1 w.heap.size (vt k n s A m c) := Box4.below (Box4.lit rfl) b1
    obtain ⟨p0, p1, p2, p3⟩ := X1
    simp only [vt] at p0 p1 p2 p3
    have hz := cell_lt p0
    rw [h]
    clear b1
    go_wp2_with fail
    refine (spec_l03Reads t k n s A m c w _ _ [] HT.out (OwnStrs.empty B1.out) (by simpa using hb)).mono ?_
    rintro e w2 ⟨v2, rfl, own2, kp2⟩
    have O2 := Lib.hid own2
    obtain ⟨A2, c2, rfl, _⟩ := own2.slice
    clear own2 kp2
    go_wp2_with fail
    go_ret
    exact ⟨_, rfl, O2.out⟩
set_option maxHeartbeats 400000 in
theorem impl_ReadsOf (t : Tm) (k n : Int) (s : ByteArray) (A : Option Addr) (m c : Nat) (w : World) (ht : TmIs AnyB w [.int .i64 k, .int .i64 n, .string s, .slice A m c] t) (hb : nodes t ≤ 10000000) :
    Calls Try.prog 98 #[.agg #[.int .i64 k, .int .i64 n, .string s, .slice A m c]] w fun e w' => ∃ v', e = .returned v' ∧ OwnStrs w w' v' (readsR t) := by
  have HT := Lib.hid ht
  clear ht
  cases h : okT 6 t with
  | false =>
    rw [readsR_no h]
    go_enter Try.func98, Try.ntmps98
    go_wp2_with fail
    refine (impl_TermOk t k n s A m c _ (HT.out.belowA (by repeat' (first | exact Below.refl _ _ | exact Nat.le_refl _ | (refine Below.alloc ?_ ?_ _) | (refine Below.setCell ?_ ?_ _) | (refine Below.drew ?_) | (refine below_drewN ?_ _) | assumption | (simp; done) | (simp; omega))))).mono ?_
    rintro e w1 ⟨rfl, b1⟩
    have B1 : Hid (Below w.heap.size w w1) := Lib.hid (Below.trans (by repeat' (first | exact Below.refl _ _ | exact Nat.le_refl _ | (refine Below.alloc ?_ ?_ _) | (refine Below.setCell ?_ ?_ _) | (refine Below.drew ?_) | (refine below_drewN ?_ _) | assumption | (simp; done) | (simp; omega))) (b1.mono (by simp)))
    rw [h]
    clear b1
    go_wp2_with fail
    go_ret
    exact ⟨_, rfl, OwnStrs.nil B1.out⟩
  | true =>
    rw [readsR_yes h]
    go_enter Try.func98, Try.ntmps98
    go_wp2_with fail
    refine (impl_TermOk t k n s A m c _ (HT.out.belowA (by repeat' (first | exact Below.refl _ _ | exact Nat.le_refl _ | (refine Below.alloc ?_ ?_ _) | (refine Below.setCell ?_ ?_ _) | (refine Below.drew ?_) | (refine below_drewN ?_ _) | assumption | (simp; done) | (simp; omega))))).mono ?_
    rintro e w1 ⟨rfl, b1⟩
    have B1 : Hid (Below w.heap.size w w1) := Lib.hid (Below.trans (by repeat' (first | exact Below.refl _ _ | exact Nat.le_refl _ | (refine Below.alloc ?_ ?_ _) | (refine Below.setCell ?_ ?_ _) | (refine Below.drew ?_) | (refine below_drewN ?_ _) | assumption | (simp; done) | (simp; omega))) (b1.mono (by simp)))
    have X1 : Box4 w1 w.heap.size (vt k n s A m c) := Box4.below (Box4.lit rfl) b1
    obtain ⟨p0, p1, p2, p3⟩ := X1
    simp only [vt] at p0 p1 p2 p3
    rw [h]
    clear b1
    go_wp2_with fail
    refine (impl_addReads t k n s A m c w _ _ [] HT.out (OwnStrs.nil B1.out) (by simpa using hb)).mono ?_
    rintro e w2 ⟨v2, rfl, own2, kp2⟩
    have O2 := Lib.hid own2
    obtain ⟨A2, c2, rfl, _⟩ := own2.slice
    clear own2 kp2
    go_wp2_with fail
    go_ret
    exact ⟨_, rfl, O2.out⟩
end Go.Proofs.Ytebacbhigfpgnaa
