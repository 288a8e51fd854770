/- ReadsOf in the reference and in the program, and the law over them. -/
import Derived.Test.YtefcdpkficojgaaDoorReads
import Derived.Test.YtefcdpkficojgaaDoorTermOkLaw
import Derived.Test.YtefcdpkficojgaaDoorTermMark
namespace Go.Proofs.YtefcdpkficojgaaDoor
open Go.RowKit
set_option linter.unusedVariables false

def readsR (t : Tm) : List ByteArray := if okT 6 t = true then readsT [] t else []
theorem readsR_yes {t : Tm} (h : okT 6 t = true) : readsR t = readsT [] t := by simp [readsR, h]
theorem readsR_no {t : Tm} (h : okT 6 t = false) : readsR t = [] := by simp [readsR, h]
theorem readsR_len (t : Tm) : (readsR t).length ≤ nodes t := by
  unfold readsR
  split
  · have := readsT_len [] t; simpa using this
  · simp
theorem OwnStrs.nil {w0 w : World} (h : Below w0.heap.size w0 w) : OwnStrs w0 w (.slice none 0 0) [] := Own.startB h _ _
theorem OwnStrs.empty {w0 w : World} (h : Below w0.heap.size w0 w) : OwnStrs w0 (w.alloc (.cells #[] 9)) (.slice (some ⟨w.heap.size, 0, none⟩) 0 0) [] := Own.lit h _ 1 0 #[] (by simp [maxLen]) rfl
theorem OwnStrs.base {w0 w1 w : World} {v : Value} {ss : List ByteArray} (h : OwnStrs w1 w v ss) (hb : Below w0.heap.size w0 w1) : OwnStrs w0 w v ss := by
  refine ⟨⟨h.1.1, ?_⟩, hb.trans (h.2.mono hb.size)⟩
  rcases h.1.2 with h' | ⟨g, cap, cur, e, hg, r⟩
  · exact .inl h'
  · exact .inr ⟨g, cap, cur, e, Nat.le_trans hb.size hg, r⟩
theorem OwnStrs.keepS {w0 w w' : World} {v : Value} {ss : List ByteArray} {S : Nat → Prop} (h : OwnStrs w0 w v ss) (hk : Keep S w w') (hv : ∀ b, v.ownBlock = some b → S b) (hs : ∀ b, b < w0.heap.size → S b) : OwnStrs w0 w' v ss := by
  refine ⟨⟨h.1.1, ?_⟩, h.2.trans (hk.below h.2.size hs)⟩
  rcases h.1.2 with h' | ⟨g, cap, cur, rfl, hg, hh, r⟩
  · exact .inl h'
  · exact .inr ⟨g, cap, cur, rfl, hg, (hk.block g (lt_of_block hh) (hv g rfl)).trans hh, r⟩
theorem OwnStrs.inB {w0 w : World} {v : Value} {ss : List ByteArray} (h : OwnStrs w0 w v ss) : ∀ b, v.ownBlock = some b → w0.heap.size ≤ b ∧ b < w.heap.size := fun b hb => h.1.lt b hb
set_option maxHeartbeats 400000 in
theorem spec_ReadsOf (t : Tm) (k n : Int) (s : ByteArray) (A : Option Addr) (m c : Nat) (w : World) (ht : TmIs AnyB w [.int .i64 k, .int .i64 n, .string s, .slice A m c] t) (hb : nodes t ≤ 10000000) :
    Calls Tryd.prog 205 #[.agg #[.int .i64 k, .int .i64 n, .string s, .slice A m c]] w fun e w' => ∃ v', e = .returned v' ∧ OwnStrs w w' v' (readsR t) := by
  have HT := Lib.hid ht
  clear ht
  cases h : okT 6 t with
  | false =>
    rw [readsR_no h]
    go_enter Tryd.func205, Tryd.ntmps205
    go_wp2_with fail
    refine (spec_TermOk t k n s A m c _ (HT.out.belowA (by repeat' (first | exact Below.refl _ _ | exact Nat.le_refl _ | (refine Below.alloc ?_ ?_ _) | (refine Below.setCell ?_ ?_ _) | (refine Below.drew ?_) | (refine below_drewN ?_ _) | assumption | (simp; done) | (simp; omega))))).mono ?_
    rintro e w1 ⟨rfl, b1⟩
    have B1 : Hid (Below w.heap.size w w1) := Lib.hid (Below.trans (by repeat' (first | exact Below.refl _ _ | exact Nat.le_refl _ | (refine Below.alloc ?_ ?_ _) | (refine Below.setCell ?_ ?_ _) | (refine Below.drew ?_) | (refine below_drewN ?_ _) | assumption | (simp; done) | (simp; omega))) (b1.mono (by simp)))
    rw [h]
    clear b1
    go_wp2_with fail
    go_ret
    exact ⟨_, rfl, OwnStrs.empty B1.out⟩
  | true =>
    rw [readsR_yes h]
    go_enter Tryd.func205, Tryd.ntmps205
    go_wp2_with fail
    refine (spec_TermOk t k n s A m c _ (HT.out.belowA (by repeat' (first | exact Below.refl _ _ | exact Nat.le_refl _ | (refine Below.alloc ?_ ?_ _) | (refine Below.setCell ?_ ?_ _) | (refine Below.drew ?_) | (refine below_drewN ?_ _) | assumption | (simp; done) | (simp; omega))))).mono ?_
    rintro e w1 ⟨rfl, b1⟩
    have B1 : Hid (Below w.heap.size w w1) := Lib.hid (Below.trans (by repeat' (first | exact Below.refl _ _ | exact Nat.le_refl _ | (refine Below.alloc ?_ ?_ _) | (refine Below.setCell ?_ ?_ _) | (refine Below.drew ?_) | (refine below_drewN ?_ _) | assumption | (simp; done) | (simp; omega))) (b1.mono (by simp)))
    have X1 : Box4 w1 w.heap.size (vt k n s A m c) := Box4.below (Box4.lit rfl) b1
    obtain ⟨p0, p1, p2, p3⟩ := X1
    simp only [vt] at p0 p1 p2 p3
    have hz := cell_lt p0
    rw [h]
    clear b1
    go_wp2_with fail
    refine (spec_l03Reads t k n s A m c w _ _ [] HT.out (OwnStrs.empty B1.out) (by simpa using hb)).mono ?_
    rintro e w2 ⟨v2, rfl, own2, kp2⟩
    have O2 := Lib.hid own2
    obtain ⟨A2, c2, rfl, _⟩ := own2.slice
    clear own2 kp2
    go_wp2_with fail
    go_ret
    exact ⟨_, rfl, O2.out⟩
set_option maxHeartbeats 400000 in
theorem impl_ReadsOf (t : Tm) (k n : Int) (s : ByteArray) (A : Option Addr) (m c : Nat) (w : World) (ht : TmIs AnyB w [.int .i64 k, .int .i64 n, .string s, .slice A m c] t) (hb : nodes t ≤ 10000000) :
    Calls Tryd.prog 210 #[.agg #[.int .i64 k, .int .i64 n, .string s, .slice A m c]] w fun e w' => ∃ v', e = .returned v' ∧ OwnStrs w w' v' (readsR t) := by
  have HT := Lib.hid ht
  clear ht
  cases h : okT 6 t with
  | false =>
    rw [readsR_no h]
    go_enter Tryd.func210, Tryd.ntmps210
    go_wp2_with fail
    refine (impl_TermOk t k n s A m c _ (HT.out.belowA (by repeat' (first | exact Below.refl _ _ | exact Nat.le_refl _ | (refine Below.alloc ?_ ?_ _) | (refine Below.setCell ?_ ?_ _) | (refine Below.drew ?_) | (refine below_drewN ?_ _) | assumption | (simp; done) | (simp; omega))))).mono ?_
    rintro e w1 ⟨rfl, b1⟩
    have B1 : Hid (Below w.heap.size w w1) := Lib.hid (Below.trans (by repeat' (first | exact Below.refl _ _ | exact Nat.le_refl _ | (refine Below.alloc ?_ ?_ _) | (refine Below.setCell ?_ ?_ _) | (refine Below.drew ?_) | (refine below_drewN ?_ _) | assumption | (simp; done) | (simp; omega))) (b1.mono (by simp)))
    rw [h]
    clear b1
    go_wp2_with fail
    go_ret
    exact ⟨_, rfl, OwnStrs.nil B1.out⟩
  | true =>
    rw [readsR_yes h]
    go_enter Tryd.func210, Tryd.ntmps210
    go_wp2_with fail
    refine (impl_TermOk t k n s A m c _ (HT.out.belowA (by repeat' (first | exact Below.refl _ _ | exact Nat.le_refl _ | (refine Below.alloc ?_ ?_ _) | (refine Below.setCell ?_ ?_ _) | (refine Below.drew ?_) | (refine below_drewN ?_ _) | assumption | (simp; done) | (simp; omega))))).mono ?_
    rintro e w1 ⟨rfl, b1⟩
    have B1 : Hid (Below w.heap.size w w1) := Lib.hid (Below.trans (by repeat' (first | exact Below.refl _ _ | exact Nat.le_refl _ | (refine Below.alloc ?_ ?_ _) | (refine Below.setCell ?_ ?_ _) | (refine Below.drew ?_) | (refine below_drewN ?_ _) | assumption | (simp; done) | (simp; omega))) (b1.mono (by simp)))
    have X1 : Box4 w1 w.heap.size (vt k n s A m c) := Box4.below (Box4.lit rfl) b1
    obtain ⟨p0, p1, p2, p3⟩ := X1
    simp only [vt] at p0 p1 p2 p3
    rw [h]
    clear b1
    go_wp2_with fail
    refine (impl_addReads t k n s A m c w _ _ [] HT.out (OwnStrs.nil B1.out) (by simpa using hb)).mono ?_
    rintro e w2 ⟨v2, rfl, own2, kp2⟩
    have O2 := Lib.hid own2
    obtain ⟨A2, c2, rfl, _⟩ := own2.slice
    clear own2 kp2
    go_wp2_with fail
    go_ret
    exact ⟨_, rfl, O2.out⟩
theorem laws_markTerm (t : Tm) (k0 n0 : Int) (s0 : ByteArray) (A : Option Addr) (m c : Nat) (k : Nat) (w : World) (F : Nat → Prop) (ht : TmO w F [.int .i64 k0, .int .i64 n0, .string s0, .slice A m c] t) (hF : ∀ b, F b → b < w.heap.size) (h0 : 0 < k) (h1 : k + 3 * nodes t ≤ 100000000) :
    Calls Tryd.prog 15 #[.agg #[.int .i64 k0, .int .i64 n0, .string s0, .slice A m c], .int .i64 (k : Int)] w fun e w' => e = .returned (.int .i64 ((k + 3 * nodess t.kids : Nat) : Int)) ∧ TmRowO w' F A (mkTs k t.kids) ∧ Keep (fun b => ¬ F b) w w' := by
  obtain ⟨kids, rfl, rfl, hl, hc, _, _, _, row⟩ := ht.inv
  have RW := Lib.hid row
  have HF := Lib.hid hF
  rw [nodes] at h1
  clear ht row hF
  show Calls Tryd.prog 15 _ w fun e w' => e = .returned (.int .i64 ((k + 3 * nodess kids : Nat) : Int)) ∧ TmRowO w' F A (mkTs k kids) ∧ Keep (fun b => ¬ F b) w w'
  go_enter Tryd.func15, Tryd.ntmps15
  go_wp2_with fail
  refine (laws_markTermS kids k A c _ F (RW.out.belowO HF.out (by repeat' (first | exact Below.refl _ _ | exact Nat.le_refl _ | (refine Below.alloc ?_ ?_ _) | (refine Below.setCell ?_ ?_ _) | (refine Below.drew ?_) | (refine below_drewN ?_ _) | assumption | (simp; done) | (simp; omega)))) (fun b hb => by have := HF.out b hb; simp; omega) hl hc h0 (by omega)).mono ?_
  rintro e w1 ⟨rfl, r1, k1⟩
  have R1 := Lib.hid r1
  have K1 : Hid (Keep (fun b => ¬ F b) w w1) := Lib.hid (Keep.trans (Keep.of_below (S := fun b => ¬ F b) (by repeat' (first | exact Below.refl _ _ | exact Nat.le_refl _ | (refine Below.alloc ?_ ?_ _) | (refine Below.setCell ?_ ?_ _) | (refine Below.drew ?_) | (refine below_drewN ?_ _) | assumption | (simp; done) | (simp; omega)))) k1 (fun _ _ h => h))
  clear r1 k1
  go_wp2_with fail
  go_ret
  exact ⟨rfl, R1.out, K1.out⟩
end Go.Proofs.YtefcdpkficojgaaDoor
