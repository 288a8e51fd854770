/- Several texts in one: StOk, NmLen, StRt, Work. -/
import Derived.Test.YtadcebdhgocmhaaKs21
import Derived.Test.YtadcebdhgocmhaaKs26
import Derived.Test.YtadcebdhgocmhaaKs10
import Derived.Test.YtadcebdhgocmhaaKs12
import Derived.Test.YtadcebdhgocmhaaKs8
namespace Go.Proofs.Ytadcebdhgocmhaa
open Go.RowKit
set_option linter.unusedVariables false


def manyB (k : Int) : Bool := (k == 2) || (k == 3)
mutual
noncomputable def rightG (deep : Nat) : St → Bool
  | .mk k s t b e => shapeG (.mk k s t b e) && (if manyB k = true then decide (deep ≠ 0) && rightGs (deep - 1) b && rightGs (deep - 1) e else true)
noncomputable def rightGs (deep : Nat) : List St → Bool
  | [] => true
  | g :: r => rightG deep g && rightGs deep r
end
theorem rightG_mk (deep : Nat) (k : Int) (s : ByteArray) (t : Tm) (b e : List St) : rightG deep (.mk k s t b e) = (shapeG (.mk k s t b e) && (if manyB k = true then decide (deep ≠ 0) && rightGs (deep - 1) b && rightGs (deep - 1) e else true)) := by rw [rightG]
theorem rightGs_append (deep : Nat) (l r : List St) : rightGs deep (l ++ r) = (rightGs deep l && rightGs deep r) := by
  induction l with
  | nil => simp [rightGs]
  | cons t l ih => rw [List.cons_append, rightGs, rightGs, ih, Bool.and_assoc]
theorem rightGs_take (deep : Nat) (l : List St) (j : Nat) (h : j < l.length) : rightGs deep (l.take (j + 1)) = (rightGs deep (l.take j) && rightG deep l[j]) := by
  have e : l.take (j + 1) = l.take j ++ [l[j]] := List.take_succ_eq_append_getElem h
  rw [e, rightGs_append]; simp [rightGs]
theorem rightGs_no (deep : Nat) (l : List St) (j : Nat) (h : j < l.length) (hn : rightG deep l[j] = false) : rightGs deep l = false := by
  have e : rightGs deep l = (rightGs deep (l.take j) && rightGs deep (l.drop j)) := by rw [← rightGs_append, List.take_append_drop]
  rw [e, List.drop_eq_getElem_cons h, rightGs, hn]; simp
theorem rightG_shape {deep : Nat} {g : St} (h : shapeG g = false) : rightG deep g = false := by
  obtain ⟨k, s, t, b, e⟩ := g
  rw [rightG_mk, h, Bool.false_and]
theorem rightG_plain {deep : Nat} {k : Int} {s : ByteArray} {t : Tm} {b e : List St} (h : shapeG (.mk k s t b e) = true) (hm : manyB k = false) : rightG deep (.mk k s t b e) = true := by
  rw [rightG_mk, h, hm]; simp
theorem rightG_many {deep : Nat} {k : Int} {s : ByteArray} {t : Tm} {b e : List St} (h : shapeG (.mk k s t b e) = true) (hm : manyB k = true) : rightG deep (.mk k s t b e) = (decide (deep ≠ 0) && rightGs (deep - 1) b && rightGs (deep - 1) e) := by
  rw [rightG_mk, h, hm]; simp
theorem totG_body {k : Int} {s : ByteArray} {t : Tm} {b e : List St} : totGs b ≤ totG (.mk k s t b e) ∧ totGs e ≤ totG (.mk k s t b e) := by rw [totG]; omega
theorem many_no {k : Int} (h : manyB k = false) : (k == 2) = false ∧ (k == 3) = false := by simpa [manyB] using h
theorem many_yes {k : Int} (h : manyB k = true) : (k == 2) = true ∨ ((k == 2) = false ∧ (k == 3) = true) := by
  unfold manyB at h
  cases h2 : (k == 2) with
  | true => exact .inl rfl
  | false => rw [h2, Bool.false_or] at h; exact .inr ⟨rfl, h⟩
theorem totGs_lt {l : List St} {x : St} (h : x ∈ l) : totG x < totGs l := by
  induction l with
  | nil => cases h
  | cons y r ih =>
    rw [totGs]
    rcases List.mem_cons.1 h with rfl | h
    · omega
    · have := ih h; omega
abbrev RgC (l : List St) : Prop := ∀ (A : Option Addr) (c : Nat) (deep : Nat) (w : World), StRow AnyB w A l → l.length ≤ c → c ≤ maxLen → totGs l ≤ 1048577 → deep ≤ 6 →
  Calls Try.prog 101 #[.slice A l.length c, .int .i64 (deep : Int)] w fun e w' => e = .returned (.bool (rightGs deep l)) ∧ Below w.heap.size w w'
set_option maxHeartbeats 3200000 in
theorem spec_l04Right_at (l : List St) (ih : ∀ g ∈ l, ∀ t k s body els, g = .mk k s t body els → RgC body ∧ RgC els) : RgC l := by
  intro A c deep w row hl hc htot hdeep
  unfold maxLen at hc
  have IH := Lib.hid ih
  have RW := Lib.hid row
  clear ih row
  go_enter Try.func101, Try.ntmps101
  go_wp2_with fail
  go_loopw [5] (fun i wr => ∃ j : Nat, j ≤ l.length ∧ i = .int .i64 j ∧ Below w.heap.size w wr ∧ Hid (rightGs deep (l.take j) = true)) (fun i _ => l.length - (intOf i).toNat)
  case atStart => exact ⟨0, Nat.zero_le _, rfl, Below.refl _ _, Lib.hid (by simp [rightGs])⟩
  case round =>
    obtain ⟨j, hj, rfl, hb, HT⟩ := hrel
    have HB := Lib.hid hb
    clear hb
    by_cases hlt : j < l.length
    case neg =>
      go_wp2_with fail
      go_ret
      have := HT.out
      rw [List.take_of_length_le (by omega)] at this
      exact ⟨ret_bool this.symm, HB.out⟩
    obtain ⟨b, off, x, rfl, _, ⟨d0, d1, d2, d3, d4, d5, d6, d7⟩, hg⟩ := rd_stmt (RW.out.belowA HB.out) hlt
    obtain ⟨t, body, els, heq, _, _, _, hb1, hb2, hb3, rb, he1, he2, he3, re⟩ := hg.inv
    have VB := Lib.hid (IH.out l[j] (List.getElem_mem hlt) t _ _ body els heq).1
    have VE := Lib.hid (IH.out l[j] (List.getElem_mem hlt) t _ _ body els heq).2
    have htj : totG l[j] ≤ 1048576 := by have := totGs_lt (List.getElem_mem hlt); omega
    have htb : totGs body ≤ 1048576 := by rw [heq] at htj; exact Nat.le_trans totG_body.1 htj
    have hte : totGs els ≤ 1048576 := by rw [heq] at htj; exact Nat.le_trans totG_body.2 htj
    have hbl := Nat.le_trans (totGs_len body) htb
    have hel := Nat.le_trans (totGs_len els) hte
    have HNO := Lib.hid (rightGs_no deep l j hlt)
    have HTK := Lib.hid (rightGs_take deep l j hlt)
    have HEQ := Lib.hid heq
    have HG := Lib.hid hg
    have RB := Lib.hid rb
    have RE := Lib.hid re
    obtain ⟨xk, xs, tk, tn, ts, tA, tm, tc, bA, bm, bc, eA, em, ec⟩ := x
    simp only at hb1 he1 hb2 hb3 he2 he3 d0 d1 d2 d3 d4 d5 d6 d7 RB RE HEQ
    subst hb1 he1
    have h0k : (0 : Int) ≤ (j : Int) := by omega
    have SH : Hid (∀ W, Below wr.heap.size wr W → Calls Try.prog 113 #[.agg #[.int .i64 xk, .string xs, .int .i64 tk, .int .i64 tn, .string ts, .slice tA tm tc, .slice bA body.length bc, .slice eA els.length ec]] W fun e w' => e = .returned (.bool (shapeG l[j])) ∧ Below W.heap.size W w') := Lib.hid fun W hW => spec_shape l[j] ⟨xk, xs, tk, tn, ts, tA, tm, tc, bA, body.length, bc, eA, els.length, ec⟩ W (HG.out.belowA hW) hbl hel
    clear heq hg rb re htj
    cases hm : manyB xk with
    | false =>
      obtain ⟨m2, m3⟩ := many_no hm
      cases hs : shapeG l[j] with
      | false =>
        have F := Lib.hid (HNO.out (rightG_shape hs))
        go_wp2_with fail
        refine (SH.out _ (by repeat' (first | exact Below.refl _ _ | exact Nat.le_refl _ | (refine Below.alloc ?_ ?_ _) | (refine Below.setCell ?_ ?_ _) | (refine Below.drew ?_) | (refine below_drewN ?_ _) | assumption | (simp; done) | (simp; omega)))).mono ?_
        rintro e w1 ⟨rfl, b1⟩
        have B1 : Hid (Below wr.heap.size wr w1) := Lib.hid (Below.trans (Below.alloc (Below.refl _ _) (Nat.le_refl _) _) (b1.mono (by simp)))
        rw [hs]
        clear b1
        go_wp2_with fail
        go_ret
        exact ⟨ret_bool F.out.symm, below_then HB.out B1.out⟩
      | true =>
        have T : Hid (rightGs deep (l.take (j + 1)) = true) := Lib.hid (by rw [HTK.out, HT.out, HEQ.out]; rw [HEQ.out] at hs; rw [rightG_plain hs hm]; rfl)
        go_wp2_with fail
        refine (SH.out _ (by repeat' (first | exact Below.refl _ _ | exact Nat.le_refl _ | (refine Below.alloc ?_ ?_ _) | (refine Below.setCell ?_ ?_ _) | (refine Below.drew ?_) | (refine below_drewN ?_ _) | assumption | (simp; done) | (simp; omega)))).mono ?_
        rintro e w1 ⟨rfl, b1⟩
        have B1 : Hid (Below wr.heap.size wr w1) := Lib.hid (Below.trans (Below.alloc (Below.refl _ _) (Nat.le_refl _) _) (b1.mono (by simp)))
        rw [hs]
        clear b1
        go_wp2_with fail
        go_roundw
        case rel => exact ⟨j + 1, by omega, by go_num, below_then HB.out B1.out, Lib.hid T.out⟩
        case measure => simp [intOf]; omega
    | true =>
      cases hs : shapeG l[j] with
      | false =>
        have F := Lib.hid (HNO.out (rightG_shape hs))
        rcases many_yes hm with m2 | ⟨m2, m3⟩
        all_goals
          go_wp2_with fail
          refine (SH.out _ (by repeat' (first | exact Below.refl _ _ | exact Nat.le_refl _ | (refine Below.alloc ?_ ?_ _) | (refine Below.setCell ?_ ?_ _) | (refine Below.drew ?_) | (refine below_drewN ?_ _) | assumption | (simp; done) | (simp; omega)))).mono ?_
          rintro e w1 ⟨rfl, b1⟩
          have B1 : Hid (Below wr.heap.size wr w1) := Lib.hid (Below.trans (Below.alloc (Below.refl _ _) (Nat.le_refl _) _) (b1.mono (by simp)))
          rw [hs]
          clear b1
          go_wp2_with fail
          go_ret
          exact ⟨ret_bool F.out.symm, below_then HB.out B1.out⟩
      | true =>
        have RG : Hid (rightG deep l[j] = (decide (deep ≠ 0) && rightGs (deep - 1) body && rightGs (deep - 1) els)) := Lib.hid (by rw [HEQ.out] at hs ⊢; exact rightG_many hs hm)
        by_cases hd : deep = 0
        · have F := Lib.hid (HNO.out (by rw [RG.out, hd]; simp))
          have hd' : ((deep : Int) == 0) = true := by simp [hd]
          clear hd
          rcases many_yes hm with m2 | ⟨m2, m3⟩
          all_goals
            go_wp2_with fail
            refine (SH.out _ (by repeat' (first | exact Below.refl _ _ | exact Nat.le_refl _ | (refine Below.alloc ?_ ?_ _) | (refine Below.setCell ?_ ?_ _) | (refine Below.drew ?_) | (refine below_drewN ?_ _) | assumption | (simp; done) | (simp; omega)))).mono ?_
            rintro e w1 ⟨rfl, b1⟩
            have B1 : Hid (Below wr.heap.size wr w1) := Lib.hid (Below.trans (Below.alloc (Below.refl _ _) (Nat.le_refl _) _) (b1.mono (by simp)))
            rw [hs]
            clear b1
            go_wp2_with fail
            go_ret
            exact ⟨ret_bool F.out.symm, below_then HB.out B1.out⟩
        have hd' : ((deep : Int) == 0) = false := beq_eq_false_iff_ne.2 (by omega)
        have hdi : 1 ≤ (deep : Int) := by omega
        have VB' : Hid (∀ W, Below wr.heap.size wr W → Calls Try.prog 101 #[.slice bA body.length bc, .int .i64 ((deep : Int) - 1)] W fun e w' => e = .returned (.bool (rightGs (deep - 1) body)) ∧ Below W.heap.size W w') := Lib.hid fun W hW => by
          have := VB.out bA bc (deep - 1) W (RB.out.belowA hW) hb2 hb3 (Nat.le_succ_of_le htb) (by omega)
          rwa [show ((deep - 1 : Nat) : Int) = (deep : Int) - 1 from by omega] at this
        have VE' : Hid (∀ W, Below wr.heap.size wr W → Calls Try.prog 101 #[.slice eA els.length ec, .int .i64 ((deep : Int) - 1)] W fun e w' => e = .returned (.bool (rightGs (deep - 1) els)) ∧ Below W.heap.size W w') := Lib.hid fun W hW => by
          have := VE.out eA ec (deep - 1) W (RE.out.belowA hW) he2 he3 (Nat.le_succ_of_le hte) (by omega)
          rwa [show ((deep - 1 : Nat) : Int) = (deep : Int) - 1 from by omega] at this
        cases hrb : rightGs (deep - 1) body with
        | false =>
          have F := Lib.hid (HNO.out (by rw [RG.out, hrb]; simp))
          rcases many_yes hm with m2 | ⟨m2, m3⟩
          all_goals
            go_wp2_with fail
            refine (SH.out _ (by repeat' (first | exact Below.refl _ _ | exact Nat.le_refl _ | (refine Below.alloc ?_ ?_ _) | (refine Below.setCell ?_ ?_ _) | (refine Below.drew ?_) | (refine below_drewN ?_ _) | assumption | (simp; done) | (simp; omega)))).mono ?_
            rintro e w1 ⟨rfl, b1⟩
            have B1 : Hid (Below wr.heap.size wr w1) := Lib.hid (Below.trans (Below.alloc (Below.refl _ _) (Nat.le_refl _) _) (b1.mono (by simp)))
            have BX1 : Hid (BoxB w1 wr.heap.size [.int .i64 xk, .string xs, .int .i64 tk, .int .i64 tn, .string ts, .slice tA tm tc, .slice bA body.length bc, .slice eA els.length ec]) := Lib.hid (BoxB.below (BoxB.lit rfl) b1)
            have y6 := BX1.out 6 _ rfl
            have y7 := BX1.out 7 _ rfl
            rw [hs]
            clear b1
            go_wp2_with fail
            refine (VB'.out _ B1.out).mono ?_
            rintro e w2 ⟨rfl, b2⟩
            have B2 := Lib.hid (below_then B1.out b2)
            rw [hrb]
            clear b2
            go_wp2_with fail
            go_ret
            exact ⟨ret_bool F.out.symm, below_then HB.out B2.out⟩
        | true =>
          cases hre : rightGs (deep - 1) els with
          | false =>
            have F := Lib.hid (HNO.out (by rw [RG.out, hre]; simp))
            rcases many_yes hm with m2 | ⟨m2, m3⟩
            all_goals
              go_wp2_with fail
              refine (SH.out _ (by repeat' (first | exact Below.refl _ _ | exact Nat.le_refl _ | (refine Below.alloc ?_ ?_ _) | (refine Below.setCell ?_ ?_ _) | (refine Below.drew ?_) | (refine below_drewN ?_ _) | assumption | (simp; done) | (simp; omega)))).mono ?_
              rintro e w1 ⟨rfl, b1⟩
              have B1 : Hid (Below wr.heap.size wr w1) := Lib.hid (Below.trans (Below.alloc (Below.refl _ _) (Nat.le_refl _) _) (b1.mono (by simp)))
              have BX1 : Hid (BoxB w1 wr.heap.size [.int .i64 xk, .string xs, .int .i64 tk, .int .i64 tn, .string ts, .slice tA tm tc, .slice bA body.length bc, .slice eA els.length ec]) := Lib.hid (BoxB.below (BoxB.lit rfl) b1)
              have y6 := BX1.out 6 _ rfl
              rw [hs]
              clear b1
              go_wp2_with fail
              refine (VB'.out _ B1.out).mono ?_
              rintro e w2 ⟨rfl, b2⟩
              have B2 := Lib.hid (below_then B1.out b2)
              have y7 := (BX1.out.below b2) 7 _ rfl
              rw [hrb]
              clear b2 y6
              go_wp2_with fail
              refine (VE'.out _ B2.out).mono ?_
              rintro e w3 ⟨rfl, b3⟩
              have B3 := Lib.hid (below_then B2.out b3)
              rw [hre]
              clear b3
              go_wp2_with fail
              go_ret
              exact ⟨ret_bool F.out.symm, below_then HB.out B3.out⟩
          | true =>
            have T : Hid (rightGs deep (l.take (j + 1)) = true) := Lib.hid (by rw [HTK.out, HT.out, RG.out, hrb, hre]; simp [hd])
            rcases many_yes hm with m2 | ⟨m2, m3⟩
            all_goals
              go_wp2_with fail
              refine (SH.out _ (by repeat' (first | exact Below.refl _ _ | exact Nat.le_refl _ | (refine Below.alloc ?_ ?_ _) | (refine Below.setCell ?_ ?_ _) | (refine Below.drew ?_) | (refine below_drewN ?_ _) | assumption | (simp; done) | (simp; omega)))).mono ?_
              rintro e w1 ⟨rfl, b1⟩
              have B1 : Hid (Below wr.heap.size wr w1) := Lib.hid (Below.trans (Below.alloc (Below.refl _ _) (Nat.le_refl _) _) (b1.mono (by simp)))
              have BX1 : Hid (BoxB w1 wr.heap.size [.int .i64 xk, .string xs, .int .i64 tk, .int .i64 tn, .string ts, .slice tA tm tc, .slice bA body.length bc, .slice eA els.length ec]) := Lib.hid (BoxB.below (BoxB.lit rfl) b1)
              have y6 := BX1.out 6 _ rfl
              rw [hs]
              clear b1
              go_wp2_with fail
              refine (VB'.out _ B1.out).mono ?_
              rintro e w2 ⟨rfl, b2⟩
              have B2 := Lib.hid (below_then B1.out b2)
              have y7 := (BX1.out.below b2) 7 _ rfl
              rw [hrb]
              clear b2 y6
              go_wp2_with fail
              refine (VE'.out _ B2.out).mono ?_
              rintro e w3 ⟨rfl, b3⟩
              have B3 := Lib.hid (below_then B2.out b3)
              rw [hre]
              clear b3
              go_wp2_with fail
              go_roundw
              case rel => exact ⟨j + 1, by omega, by go_num, below_then HB.out B3.out, Lib.hid T.out⟩
              case measure => simp [intOf]; omega
theorem spec_l04Right (l : List St) : RgC l := by
  induction hN : snodess l using Nat.strongRecOn generalizing l with
  | ind N ih =>
    refine spec_l04Right_at l fun g hg t k s body els e => ?_
    have := snodess_le hg
    have h2 : snodes g = 1 + snodess body + snodess els := by rw [e, snodes]
    exact ⟨ih _ (by omega) body rfl, ih _ (by omega) els rfl⟩

theorem name_len {l : List UInt8} (h : isNameL l = true) : l.length ≤ 12 := by
  rcases Nat.lt_or_ge 12 l.length with h1 | h1
  · have := not_name _ (word_long l h1)
    rw [this] at h; cases h
  · exact h1

theorem right_shape {deep : Nat} {g : St} (h : rightG deep g = true) : shapeG g = true := by
  cases hs : shapeG g with
  | true => rfl
  | false => rw [rightG_shape hs] at h; cases h
theorem rightGs_get {deep : Nat} {l : List St} (h : rightGs deep l = true) {j : Nat} (hj : j < l.length) : rightG deep l[j] = true := by
  cases hr : rightG deep l[j] with
  | true => rfl
  | false => rw [rightGs_no deep l j hj hr] at h; cases h

/-- a right term that is no leaf has one kid or two, right ones -/
theorem okT_kids {room : Nat} {k n : Int} {s : ByteArray} {kids : List Tm} (h1 : k ≠ 1) (h2 : k ≠ 2) (h : okT room (.mk k n s kids) = true) :
    ∃ r, room = r + 1 ∧ ((k = 8 ∧ ∃ x, kids = [x] ∧ okT r x = true) ∨ ((k = 3 ∨ k = 4 ∨ k = 5 ∨ k = 6 ∨ k = 7 ∨ k = 9) ∧ ∃ x y, kids = [x, y] ∧ okT r x = true ∧ okT r y = true)) := by
  have g1 : (k == 1) = false := beq_eq_false_iff_ne.2 h1
  have g2 : (k == 2) = false := beq_eq_false_iff_ne.2 h2
  cases room with
  | zero => rw [okT_zero g1 g2] at h; cases h
  | succ r =>
    rw [okT_more g1 g2] at h
    simp only [Bool.and_eq_true, beq_iff_eq] at h
    obtain ⟨⟨⟨⟨a1, a2⟩, a3⟩, a4⟩, a5⟩ := h
    have := inB_le a1
    refine ⟨r, rfl, ?_⟩
    by_cases e : k = 8
    · subst e
      simp only [manyK, if_true] at a4
      match kids, a4 with
      | [x], _ => exact .inl ⟨rfl, x, rfl, by simpa using a5⟩
    · rw [manyK, if_neg e] at a4
      match kids, a4 with
      | [x, y], _ => exact .inr ⟨by omega, x, y, rfl, by simpa using a5⟩
end Go.Proofs.Ytadcebdhgocmhaa
