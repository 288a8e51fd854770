/- Lemmas for the row. -/
import Derived.Test.YtnmblfonmfjoeaaGreatDoorKc16
namespace Go.Proofs.YtnmblfonmfjoeaaGreatDoor
open Go.RowKit
set_option maxHeartbeats 3200000
set_option linter.unusedVariables false
def manyB (k : Int) : Bool := (k == 2) || (k == 3)
mutual
noncomputable def rightG (deep : Nat) : St → Bool
 | .mk k s t b e => shapeG (.mk k s t b e) && (if manyB k = true then decide (deep ≠ 0) && rightGs (deep - 1) b && rightGs (deep - 1) e else true)
noncomputable def rightGs (deep : Nat) : List St → Bool
 | [] => true
 | g :: r => rightG deep g && rightGs deep r
end
theorem rightG_mk (deep : Nat) (k : Int) (s : ByteArray) (t : Tm) (b e : List St) : rightG deep (.mk k s t b e) = (shapeG (.mk k s t b e) && (if manyB k = true then decide (deep ≠ 0) && rightGs (deep - 1) b && rightGs (deep - 1) e else true)) := by rw [rightG]
theorem rightGs_append (deep : Nat) (l r : List St) : rightGs deep (l ++ r) = (rightGs deep l && rightGs deep r) := by
 induction l with
 | nil => simp [rightGs]
 | cons t l ih => rw [List.cons_append, rightGs, rightGs, ih, Bool.and_assoc]
theorem rightGs_take (deep : Nat) (l : List St) (j : Nat) (h : j < l.length) : rightGs deep (l.take (j + 1)) = (rightGs deep (l.take j) && rightG deep l[j]) := by
 have e : l.take (j + 1) = l.take j ++ [l[j]] := List.take_succ_eq_append_getElem h
 rw [e, rightGs_append]; simp [rightGs]
theorem rightGs_no (deep : Nat) (l : List St) (j : Nat) (h : j < l.length) (hn : rightG deep l[j] = false) : rightGs deep l = false := by
 have e : rightGs deep l = (rightGs deep (l.take j) && rightGs deep (l.drop j)) := by rw [← rightGs_append, List.take_append_drop]
 rw [e, List.drop_eq_getElem_cons h, rightGs, hn]; simp
theorem rightG_shape {deep : Nat} {g : St} (h : shapeG g = false) : rightG deep g = false := by
 obtain ⟨k, s, t, b, e⟩ := g
 rw [rightG_mk, h, Bool.false_and]
theorem rightG_plain {deep : Nat} {k : Int} {s : ByteArray} {t : Tm} {b e : List St} (h : shapeG (.mk k s t b e) = true) (hm : manyB k = false) : rightG deep (.mk k s t b e) = true := by
 rw [rightG_mk, h, hm]; simp
theorem rightG_many {deep : Nat} {k : Int} {s : ByteArray} {t : Tm} {b e : List St} (h : shapeG (.mk k s t b e) = true) (hm : manyB k = true) : rightG deep (.mk k s t b e) = (decide (deep ≠ 0) && rightGs (deep - 1) b && rightGs (deep - 1) e) := by
 rw [rightG_mk, h, hm]; simp
theorem totG_body {k : Int} {s : ByteArray} {t : Tm} {b e : List St} : totGs b ≤ totG (.mk k s t b e) ∧ totGs e ≤ totG (.mk k s t b e) := by rw [totG]; omega
theorem many_no {k : Int} (h : manyB k = false) : (k == 2) = false ∧ (k == 3) = false := by simpa [manyB] using h
theorem many_yes {k : Int} (h : manyB k = true) : (k == 2) = true ∨ ((k == 2) = false ∧ (k == 3) = true) := by
 unfold manyB at h
 cases h2 : (k == 2) with
 | true => exact .inl rfl
 | false => rw [h2, Bool.false_or] at h; exact .inr ⟨rfl, h⟩
theorem totGs_lt {l : List St} {x : St} (h : x ∈ l) : totG x < totGs l := by
 induction l with
 | nil => cases h
 | cons y r ih =>
  rw [totGs]
  rcases List.mem_cons.1 h with rfl | h
  ·omega
  ·have := ih h; omega
abbrev RgC (l : List St) : Prop := ∀ (A : Option Addr) (c : Nat) (deep : Nat) (w : World), StRow AnyB w A l → l.length ≤ c → c ≤ maxLen → totGs l ≤ 1048577 → deep ≤ 6 →
 Calls Tryz.prog 101 #[.slice A l.length c, .int .i64 (deep : Int)] w fun e w' => e = .returned (.bool (rightGs deep l)) ∧ Below w.heap.size w w'
theorem spec_l04Right_at (l : List St) (ih : ∀ g ∈ l, ∀ t k s body els, g = .mk k s t body els → RgC body ∧ RgC els) : RgC l := by
 intro A c deep w row hl hc htot hdeep
 unfold maxLen at hc
 have IH := qh ih
 have RW := qh row
 clear ih row
 go_enter Tryz.func101, Tryz.ntmps101
 go_wp2_with fail
 go_loopw [5] (fun i wr => ∃ j : Nat, j ≤ l.length ∧ i = .int .i64 j ∧ Below w.heap.size w wr ∧ Hid (rightGs deep (l.take j) = true)) (fun i _ => l.length - (intOf i).toNat)
 case atStart => exact ⟨0, Nat.zero_le _, rfl, Below.refl _ _, qh (by simp [rightGs])⟩
 case round =>
  obtain ⟨j, hj, rfl, hb, HT⟩ := hrel
  have HB := qh hb
  clear hb
  by_cases hlt : j < l.length
  case neg =>
   go_wp2_with fail
   go_ret
   have := HT.out
   rw [List.take_of_length_le (by omega)] at this
   exact ⟨ret_bool this.symm, HB.out⟩
  obtain ⟨b, off, x, rfl, _, ⟨d0, d1, d2, d3, d4, d5, d6, d7⟩, hg⟩ := rd_stmt (RW.out.belowA HB.out) hlt
  obtain ⟨t, body, els, heq, _, _, _, hb1, hb2, hb3, rb, he1, he2, he3, re⟩ := hg.inv
  have VB := qh (IH.out l[j] (List.getElem_mem hlt) t _ _ body els heq).1
  have VE := qh (IH.out l[j] (List.getElem_mem hlt) t _ _ body els heq).2
  have htj : totG l[j] ≤ 1048576 := by have := totGs_lt (List.getElem_mem hlt); omega
  have htb : totGs body ≤ 1048576 := by rw [heq] at htj; exact Nat.le_trans totG_body.1 htj
  have hte : totGs els ≤ 1048576 := by rw [heq] at htj; exact Nat.le_trans totG_body.2 htj
  have hbl := Nat.le_trans (totGs_len body) htb
  have hel := Nat.le_trans (totGs_len els) hte
  have HNO := qh (rightGs_no deep l j hlt)
  have HTK := qh (rightGs_take deep l j hlt)
  have HEQ := qh heq
  have HG := qh hg
  have RB := qh rb
  have RE := qh re
  obtain ⟨xk, xs, tk, tn, ts, tA, tm, tc, bA, bm, bc, eA, em, ec⟩ := x
  simp only at hb1 he1 hb2 hb3 he2 he3 d0 d1 d2 d3 d4 d5 d6 d7 RB RE HEQ
  subst hb1 he1
  have h0k : (0 : Int) ≤ (j : Int) := by omega
  have SH : Hid (∀ W, Below wr.heap.size wr W → Calls Tryz.prog 109 #[.agg #[.int .i64 xk, .string xs, .int .i64 tk, .int .i64 tn, .string ts, .slice tA tm tc, .slice bA body.length bc, .slice eA els.length ec]] W fun e w' => e = .returned (.bool (shapeG l[j])) ∧ Below W.heap.size W w') := qh fun W hW => spec_shape l[j] ⟨xk, xs, tk, tn, ts, tA, tm, tc, bA, body.length, bc, eA, els.length, ec⟩ W (HG.out.belowA hW) hbl hel
  clear heq hg rb re htj
  cases hm : manyB xk with
  | false =>
   obtain ⟨m2, m3⟩ := many_no hm
   cases hs : shapeG l[j] with
   | false =>
    have F := qh (HNO.out (rightG_shape hs))
    go_wp2_with fail
    refine (SH.out _ zB).mono ?_
    rintro e w1 ⟨rfl, b1⟩
    have B1 : Hid (Below wr.heap.size wr w1) := qh (Below.trans (Below.alloc (Below.refl _ _) (Nat.le_refl _) _) (b1.mono (by simp)))
    rw [hs]
    clear b1
    go_wp2_with fail
    go_ret
    exact ⟨ret_bool F.out.symm, below_then HB.out B1.out⟩
   | true =>
    have T : Hid (rightGs deep (l.take (j + 1)) = true) := qh (by rw [HTK.out, HT.out, HEQ.out]; rw [HEQ.out] at hs; rw [rightG_plain hs hm]; rfl)
    go_wp2_with fail
    refine (SH.out _ zB).mono ?_
    rintro e w1 ⟨rfl, b1⟩
    have B1 : Hid (Below wr.heap.size wr w1) := qh (Below.trans (Below.alloc (Below.refl _ _) (Nat.le_refl _) _) (b1.mono (by simp)))
    rw [hs]
    clear b1
    go_wp2_with fail
    go_roundw
    case rel => exact ⟨j + 1, by omega, by go_num, below_then HB.out B1.out, qh T.out⟩
    case measure => simp [intOf]; omega
  | true =>
   cases hs : shapeG l[j] with
   | false =>
    have F := qh (HNO.out (rightG_shape hs))
    rcases many_yes hm with m2 | ⟨m2, m3⟩
    all_goals
     go_wp2_with fail
     refine (SH.out _ zB).mono ?_
     rintro e w1 ⟨rfl, b1⟩
     have B1 : Hid (Below wr.heap.size wr w1) := qh (Below.trans (Below.alloc (Below.refl _ _) (Nat.le_refl _) _) (b1.mono (by simp)))
     rw [hs]
     clear b1
     go_wp2_with fail
     go_ret
     exact ⟨ret_bool F.out.symm, below_then HB.out B1.out⟩
   | true =>
    have RG : Hid (rightG deep l[j] = (decide (deep ≠ 0) && rightGs (deep - 1) body && rightGs (deep - 1) els)) := qh (by rw [HEQ.out] at hs ⊢; exact rightG_many hs hm)
    by_cases hd : deep = 0
    ·have F := qh (HNO.out (by rw [RG.out, hd]; simp))
     have hd' : ((deep : Int) == 0) = true := by simp [hd]
     clear hd
     rcases many_yes hm with m2 | ⟨m2, m3⟩
     all_goals
      go_wp2_with fail
      refine (SH.out _ zB).mono ?_
      rintro e w1 ⟨rfl, b1⟩
      have B1 : Hid (Below wr.heap.size wr w1) := qh (Below.trans (Below.alloc (Below.refl _ _) (Nat.le_refl _) _) (b1.mono (by simp)))
      rw [hs]
      clear b1
      go_wp2_with fail
      go_ret
      exact ⟨ret_bool F.out.symm, below_then HB.out B1.out⟩
    have hd' : ((deep : Int) == 0) = false := beq_eq_false_iff_ne.2 (by omega)
    have hdi : 1 ≤ (deep : Int) := by omega
    have VB' : Hid (∀ W, Below wr.heap.size wr W → Calls Tryz.prog 101 #[.slice bA body.length bc, .int .i64 ((deep : Int) - 1)] W fun e w' => e = .returned (.bool (rightGs (deep - 1) body)) ∧ Below W.heap.size W w') := qh fun W hW => by
     have := VB.out bA bc (deep - 1) W (RB.out.belowA hW) hb2 hb3 (Nat.le_succ_of_le htb) (by omega)
     rwa [show ((deep - 1 : Nat) : Int) = (deep : Int) - 1 from by omega] at this
    have VE' : Hid (∀ W, Below wr.heap.size wr W → Calls Tryz.prog 101 #[.slice eA els.length ec, .int .i64 ((deep : Int) - 1)] W fun e w' => e = .returned (.bool (rightGs (deep - 1) els)) ∧ Below W.heap.size W w') := qh fun W hW => by
     have := VE.out eA ec (deep - 1) W (RE.out.belowA hW) he2 he3 (Nat.le_succ_of_le hte) (by omega)
     rwa [show ((deep - 1 : Nat) : Int) = (deep : Int) - 1 from by omega] at this
    cases hrb : rightGs (deep - 1) body with
    | false =>
     have F := qh (HNO.out (by rw [RG.out, hrb]; simp))
     rcases many_yes hm with m2 | ⟨m2, m3⟩
     all_goals
      go_wp2_with fail
      refine (SH.out _ zB).mono ?_
      rintro e w1 ⟨rfl, b1⟩
      have B1 : Hid (Below wr.heap.size wr w1) := qh (Below.trans (Below.alloc (Below.refl _ _) (Nat.le_refl _) _) (b1.mono (by simp)))
      have BX1 : Hid (BoxB w1 wr.heap.size [.int .i64 xk, .string xs, .int .i64 tk, .int .i64 tn, .string ts, .slice tA tm tc, .slice bA body.length bc, .slice eA els.length ec]) := qh (BoxB.below (BoxB.lit rfl) b1)
      have y6 := BX1.out 6 _ rfl
      have y7 := BX1.out 7 _ rfl
      rw [hs]
      clear b1
      go_wp2_with fail
      refine (VB'.out _ B1.out).mono ?_
      rintro e w2 ⟨rfl, b2⟩
      have B2 := qh (below_then B1.out b2)
      rw [hrb]
      clear b2
      go_wp2_with fail
      go_ret
      exact ⟨ret_bool F.out.symm, below_then HB.out B2.out⟩
    | true =>
     cases hre : rightGs (deep - 1) els with
     | false =>
      have F := qh (HNO.out (by rw [RG.out, hre]; simp))
      rcases many_yes hm with m2 | ⟨m2, m3⟩
      all_goals
       go_wp2_with fail
       refine (SH.out _ zB).mono ?_
       rintro e w1 ⟨rfl, b1⟩
       have B1 : Hid (Below wr.heap.size wr w1) := qh (Below.trans (Below.alloc (Below.refl _ _) (Nat.le_refl _) _) (b1.mono (by simp)))
       have BX1 : Hid (BoxB w1 wr.heap.size [.int .i64 xk, .string xs, .int .i64 tk, .int .i64 tn, .string ts, .slice tA tm tc, .slice bA body.length bc, .slice eA els.length ec]) := qh (BoxB.below (BoxB.lit rfl) b1)
       have y6 := BX1.out 6 _ rfl
       rw [hs]
       clear b1
       go_wp2_with fail
       refine (VB'.out _ B1.out).mono ?_
       rintro e w2 ⟨rfl, b2⟩
       have B2 := qh (below_then B1.out b2)
       have y7 := (BX1.out.below b2) 7 _ rfl
       rw [hrb]
       clear b2 y6
       go_wp2_with fail
       refine (VE'.out _ B2.out).mono ?_
       rintro e w3 ⟨rfl, b3⟩
       have B3 := qh (below_then B2.out b3)
       rw [hre]
       clear b3
       go_wp2_with fail
       go_ret
       exact ⟨ret_bool F.out.symm, below_then HB.out B3.out⟩
     | true =>
      have T : Hid (rightGs deep (l.take (j + 1)) = true) := qh (by rw [HTK.out, HT.out, RG.out, hrb, hre]; simp [hd])
      rcases many_yes hm with m2 | ⟨m2, m3⟩
      all_goals
       go_wp2_with fail
       refine (SH.out _ zB).mono ?_
       rintro e w1 ⟨rfl, b1⟩
       have B1 : Hid (Below wr.heap.size wr w1) := qh (Below.trans (Below.alloc (Below.refl _ _) (Nat.le_refl _) _) (b1.mono (by simp)))
       have BX1 : Hid (BoxB w1 wr.heap.size [.int .i64 xk, .string xs, .int .i64 tk, .int .i64 tn, .string ts, .slice tA tm tc, .slice bA body.length bc, .slice eA els.length ec]) := qh (BoxB.below (BoxB.lit rfl) b1)
       have y6 := BX1.out 6 _ rfl
       rw [hs]
       clear b1
       go_wp2_with fail
       refine (VB'.out _ B1.out).mono ?_
       rintro e w2 ⟨rfl, b2⟩
       have B2 := qh (below_then B1.out b2)
       have y7 := (BX1.out.below b2) 7 _ rfl
       rw [hrb]
       clear b2 y6
       go_wp2_with fail
       refine (VE'.out _ B2.out).mono ?_
       rintro e w3 ⟨rfl, b3⟩
       have B3 := qh (below_then B2.out b3)
       rw [hre]
       clear b3
       go_wp2_with fail
       go_roundw
       case rel => exact ⟨j + 1, by omega, by go_num, below_then HB.out B3.out, qh T.out⟩
       case measure => simp [intOf]; omega
theorem spec_l04Right (l : List St) : RgC l := by
 induction hN : snodess l using Nat.strongRecOn generalizing l with
 | ind N ih =>
  refine spec_l04Right_at l fun g hg t k s body els e => ?_
  have := snodess_le hg
  have h2 : snodes g = 1 + snodess body + snodess els := by rw [e, snodes]
  exact ⟨ih _ (by omega) body rfl, ih _ (by omega) els rfl⟩
noncomputable def fitGs (deep room : Nat) (l : List St) : Bool := rightGs deep l && decide (snodess l ≤ room)
theorem fit_no1 {deep room : Nat} {l : List St} (h : rightGs deep l = false) : fitGs deep room l = false := by simp [fitGs, h]
theorem fit_no2 {deep room : Nat} {l : List St} (h : room < snodess l) : fitGs deep room l = false := by
 have : decide (snodess l ≤ room) = false := decide_no (by omega)
 simp [fitGs, this]
theorem fit_yes {deep room : Nat} {l : List St} (h : rightGs deep l = true) (h2 : snodess l ≤ room) : fitGs deep room l = true := by simp [fitGs, h, h2]
theorem fit_inv {deep room : Nat} {l : List St} (h : fitGs deep room l = true) : rightGs deep l = true ∧ snodess l ≤ room := by simpa [fitGs] using h
theorem plain_one {k : Int} {s : ByteArray} {t : Tm} {b e : List St} (h : shapeG (.mk k s t b e) = true) (hm : manyB k = false) : snodes (.mk k s t b e) = 1 := by
 obtain ⟨m2, m3⟩ := many_no hm
 rw [beq_eq_false_iff_ne] at m2 m3
 simp only [shapeG, shapeB] at h
 have key : ((b.length : Int) == 0) = true ∧ ((e.length : Int) == 0) = true := by
  by_cases c1 : k = 1
  ·rw [if_pos c1] at h; simp only [Bool.and_eq_true] at h; exact ⟨h.1.2, h.2⟩
  ·rw [if_neg c1, if_neg m2, if_neg m3] at h
   by_cases c4 : k = 4 ∨ k = 5 ∨ k = 6 ∨ k = 7
   ·rw [if_pos c4] at h; simp only [Bool.and_eq_true] at h; exact ⟨h.1.2, h.2⟩
   ·rw [if_neg c4] at h
    by_cases c8 : k = 8
    ·rw [if_pos c8] at h; simp only [Bool.and_eq_true] at h; exact ⟨h.1.2, h.2⟩
    ·rw [if_neg c8] at h; cases h
 have hb : b = [] := List.eq_nil_of_length_eq_zero (by have := key.1; rw [beq_iff_eq] at this; omega)
 have he : e = [] := List.eq_nil_of_length_eq_zero (by have := key.2; rw [beq_iff_eq] at this; omega)
 subst hb he
 rw [snodes, snodess]
def RoomAt (w : World) (rb : Nat) (r : Int) : Prop := w.heap[rb]? = some (.cells #[.int .i64 r] 3 (0, 0))
abbrev FiC (l : List St) : Prop := ∀ (A : Option Addr) (c : Nat) (deep room rb : Nat) (w : World), StRow (fun b => b ≠ rb) w A l → l.length ≤ c → c ≤ maxLen → totGs l ≤ 1048577 → deep ≤ 6 → room ≤ 60 → RoomAt w rb (room : Int) →
 Calls Tryz.prog 74 #[.slice A l.length c, .int .i64 (deep : Int), .pointer (some ⟨rb, 0, none⟩)] w fun e w' => e = .returned (.bool (fitGs deep room l)) ∧ Keep (fun b => b ≠ rb) w w' ∧ ∃ r, RoomAt w' rb r ∧ (fitGs deep room l = true → r = (room : Int) - (snodess l : Int))
theorem room_alloc {w : World} {rb : Nat} {r : Int} (h : RoomAt w rb r) (o : Obj) : RoomAt (w.alloc o) rb r := (heap_alloc_lt (lt_of_block h)).trans h
theorem room_below {w w' : World} {rb : Nat} {r : Int} (h : RoomAt w rb r) (hb : Below w.heap.size w w') : RoomAt w' rb r := (hb.block rb (lt_of_block h)).trans h
theorem impl_stmtsFit_at (l : List St) (ih : ∀ g ∈ l, ∀ t k s body els, g = .mk k s t body els → FiC body ∧ FiC els) : FiC l := by
 intro A c deep room rb w row hl hc htot hdeep hroom hR
 unfold maxLen at hc
 have IH := qh ih
 have RW := qh row
 have R0 := qh hR
 clear ih row hR
 go_enter Tryz.func74, Tryz.ntmps74
 go_wp2_with fail
 go_loopw [11] (fun i wr => ∃ j : Nat, j ≤ l.length ∧ i = .int .i64 j ∧ Hid (Keep (fun b => b ≠ rb) w wr ∧ rightGs deep (l.take j) = true ∧ snodess (l.take j) ≤ room ∧ RoomAt wr rb ((room : Int) - (snodess (l.take j) : Int)))) (fun i _ => l.length - (intOf i).toNat)
 case atStart => exact ⟨0, Nat.zero_le _, rfl, qh ⟨Keep.refl _ _, by simp [rightGs], by simp [snodess], by simp only [List.take_zero, snodess]; simpa using R0.out⟩⟩
 case round =>
  obtain ⟨j, hj, rfl, HR⟩ := hrel
  by_cases hlt : j < l.length
  case neg =>
   go_wp2_with fail
   go_ret
   obtain ⟨k1, k2, k3, k4⟩ := HR.out
   rw [List.take_of_length_le (by omega)] at k2 k3 k4
   exact ⟨ret_bool (fit_yes k2 k3).symm, k1, _, k4, fun _ => rfl⟩
  obtain ⟨hkeep, hright, hle, hrm⟩ := HR.out
  obtain ⟨b, off, x, rfl, hbF, ⟨d0, d1, d2, d3, d4, d5, d6, d7⟩, hg⟩ := rd_stmt (RW.out.kept hkeep (fun _ _ h => h)) hlt
  obtain ⟨t, body, els, heq, _, _, _, hb1, hb2, hb3, rb', he1, he2, he3, re⟩ := hg.inv
  have VB := qh (IH.out l[j] (List.getElem_mem hlt) t _ _ body els heq).1
  have VE := qh (IH.out l[j] (List.getElem_mem hlt) t _ _ body els heq).2
  have htj : totG l[j] ≤ 1048576 := by have := totGs_lt (List.getElem_mem hlt); omega
  have htb : totGs body ≤ 1048576 := by rw [heq] at htj; exact Nat.le_trans totG_body.1 htj
  have hte : totGs els ≤ 1048576 := by rw [heq] at htj; exact Nat.le_trans totG_body.2 htj
  have hbl := Nat.le_trans (totGs_len body) htb
  have hel := Nat.le_trans (totGs_len els) hte
  have HNO := qh (rightGs_no deep l j hlt)
  have HTK := qh (rightGs_take deep l j hlt)
  have hst := snodess_take l j hlt
  have hsp := snodess_split l j hlt
  have hsg : snodes l[j] = 1 + snodess body + snodess els := by rw [heq, snodes]
  have HEQ := qh heq
  have HG := qh hg.any
  have RB := qh rb'
  have RE := qh re
  have KP := qh hkeep
  have HRT := qh hright
  have HRM := qh hrm
  obtain ⟨xk, xs, tk, tn, ts, tA, tm, tc, bA, bm, bc, eA, em, ec⟩ := x
  simp only at hb1 he1 hb2 hb3 he2 he3 d0 d1 d2 d3 d4 d5 d6 d7 RB RE HEQ
  subst hb1 he1
  have h0k : (0 : Int) ≤ (j : Int) := by omega
  have c0 := cell_of_one hrm
  have f0 := free_of_one hrm
  have lrb := lt_of_block hrm
  have lb := cell_lt d0
  have SH : Hid (∀ W, Keep (fun b => b ≠ rb) wr W → StIs AnyB W ⟨xk, xs, tk, tn, ts, tA, tm, tc, bA, body.length, bc, eA, els.length, ec⟩ l[j] → Calls Tryz.prog 99 #[.agg #[.int .i64 xk, .string xs, .int .i64 tk, .int .i64 tn, .string ts, .slice tA tm tc, .slice bA body.length bc, .slice eA els.length ec]] W fun e w' => e = .returned (.bool (shapeG l[j])) ∧ Below W.heap.size W w') := qh fun W _ hW => impl_shape l[j] ⟨xk, xs, tk, tn, ts, tA, tm, tc, bA, body.length, bc, eA, els.length, ec⟩ W hW hbl hel
  have GK := qh hg
  clear heq hg rb' re htj hkeep hright hrm HR
  generalize hK : snodess (l.take j) = K at *
  by_cases hr0 : room = K
  ·have F := qh (fit_no2 (deep := deep) (room := room) (l := l) (by omega))
   have hlt0 : (room : Int) - (K : Int) - 1 < 0 := by omega
   clear hr0 hst hsp hsg
   go_wp2_with fail
   go_ret
   refine ⟨ret_bool F.out.symm, KP.out.trans (((Keep.refl _ _).setCell (p := ⟨rb, 0, none⟩) (fun h => h rfl) _).alloc _) (fun _ _ h => h), _, room_alloc (one_setCell HRM.out) _, fun h => by rw [F.out] at h; cases h⟩
  have hge : 0 ≤ (room : Int) - (K : Int) - 1 := by omega
  have KW : Hid (Keep (fun b => b ≠ rb) wr ((wr.setCell ⟨rb, 0, none⟩ (.int .i64 ((room : Int) - (K : Int) - 1))).alloc (.cells #[.int .i64 xk, .string xs, .int .i64 tk, .int .i64 tn, .string ts, .slice tA tm tc, .slice bA body.length bc, .slice eA els.length ec] 71))) := qh (((Keep.refl _ _).setCell (p := ⟨rb, 0, none⟩) (fun h => h rfl) _).alloc _)
  have RM1 : Hid (RoomAt ((wr.setCell ⟨rb, 0, none⟩ (.int .i64 ((room : Int) - (K : Int) - 1))).alloc (.cells #[.int .i64 xk, .string xs, .int .i64 tk, .int .i64 tn, .string ts, .slice tA tm tc, .slice bA body.length bc, .slice eA els.length ec] 71)) rb ((room : Int) - (K : Int) - 1)) := qh (room_alloc (one_setCell HRM.out) _)
  cases hs : shapeG l[j] with
  | false =>
   have F := qh (fit_no1 (room := room) (HNO.out (rightG_shape hs)))
   go_wp2_with fail
   refine (SH.out _ KW.out (GK.out.kept KW.out (fun _ _ h => h)).any).mono ?_
   rintro e w1 ⟨rfl, b1⟩
   have K1 := qh (KP.out.trans (KW.out.trans (Keep.of_below (S := fun b => b ≠ rb) b1) (fun _ _ h => h)) (fun _ _ h => h))
   have R1 := qh (room_below RM1.out b1)
   rw [hs]
   clear b1
   go_wp2_with fail
   go_ret
   exact ⟨ret_bool F.out.symm, K1.out, _, R1.out, fun h => by rw [F.out] at h; cases h⟩
  | true =>
   cases hm : manyB xk with
   | false =>
    obtain ⟨m2, m3⟩ := many_no hm
    have n2 : (xk != 2) = true := by simpa using m2
    have n3 : (xk != 3) = true := by simpa using m3
    have T : Hid (rightGs deep (l.take (j + 1)) = true) := qh (by rw [HTK.out, HRT.out, HEQ.out]; rw [HEQ.out] at hs; rw [rightG_plain hs hm]; rfl)
    have h1 : snodes l[j] = 1 := by rw [HEQ.out] at hs ⊢; exact plain_one hs hm
    have HS : Hid (snodess (l.take (j + 1)) ≤ room ∧ ((room : Int) - (K : Int) - 1 = (room : Int) - (snodess (l.take (j + 1)) : Int))) := qh (by omega)
    clear hst hsp hsg h1
    go_wp2_with fail
    refine (SH.out _ KW.out (GK.out.kept KW.out (fun _ _ h => h)).any).mono ?_
    rintro e w1 ⟨rfl, b1⟩
    have K1 := qh (KP.out.trans (KW.out.trans (Keep.of_below (S := fun b => b ≠ rb) b1) (fun _ _ h => h)) (fun _ _ h => h))
    have R1 := qh (room_below RM1.out b1)
    have BX1 : Hid (BoxB w1 wr.heap.size [.int .i64 xk, .string xs, .int .i64 tk, .int .i64 tn, .string ts, .slice tA tm tc, .slice bA body.length bc, .slice eA els.length ec]) := qh (BoxB.below (BoxB.lit (by simp)) b1)
    have y0 := BX1.out 0 _ rfl
    rw [hs]
    clear b1
    go_wp2_with fail
    go_roundw
    case rel => exact ⟨j + 1, by omega, by go_num, qh ⟨K1.out, T.out, HS.out.1, by rw [← HS.out.2]; exact R1.out⟩⟩
    case measure => simp [intOf]; omega
   | true =>
    have RG : Hid (rightG deep l[j] = (decide (deep ≠ 0) && rightGs (deep - 1) body && rightGs (deep - 1) els)) := qh (by rw [HEQ.out] at hs ⊢; exact rightG_many hs hm)
    have MM : Hid (((xk != 2) = false) ∨ ((xk != 2) = true ∧ (xk != 3) = false)) := qh (by
     rcases many_yes hm with m2 | ⟨m2, m3⟩
     ·exact .inl (by rw [beq_iff_eq] at m2; simp [m2])
     ·exact .inr ⟨by rw [beq_eq_false_iff_ne] at m2; simpa using m2, by rw [beq_iff_eq] at m3; simp [m3]⟩)
    by_cases hd : deep = 0
    ·have F := qh (fit_no1 (room := room) (HNO.out (by rw [RG.out, hd]; simp)))
     have hd' : ((deep : Int) == 0) = true := by simp [hd]
     clear hd
     rcases MM.out with m2 | ⟨m2, m3⟩
     all_goals
      go_wp2_with fail
      refine (SH.out _ KW.out (GK.out.kept KW.out (fun _ _ h => h)).any).mono ?_
      rintro e w1 ⟨rfl, b1⟩
      have KW1 := qh (KW.out.trans (Keep.of_below (S := fun b => b ≠ rb) b1) (fun _ _ h => h))
      have R1 := qh (room_below RM1.out b1)
      have BX1 : Hid (BoxB w1 wr.heap.size [.int .i64 xk, .string xs, .int .i64 tk, .int .i64 tn, .string ts, .slice tA tm tc, .slice bA body.length bc, .slice eA els.length ec]) := qh (BoxB.below (BoxB.lit (by simp)) b1)
      have y0 := BX1.out 0 _ rfl
      have y6 := BX1.out 6 _ rfl
      rw [hs]
      clear b1
      go_wp2_with fail
      go_ret
      exact ⟨ret_bool F.out.symm, KP.out.trans KW1.out (fun _ _ h => h), _, R1.out, fun h => by rw [F.out] at h; cases h⟩
    have hd' : ((deep : Int) == 0) = false := beq_eq_false_iff_ne.2 (by omega)
    have hdi : 1 ≤ (deep : Int) := by omega
    have VB' : Hid (∀ W, StRow (fun b => b ≠ rb) W bA body → RoomAt W rb ((room : Int) - (K : Int) - 1) → Calls Tryz.prog 74 #[.slice bA body.length bc, .int .i64 ((deep : Int) - 1), .pointer (some ⟨rb, 0, none⟩)] W fun e w' => e = .returned (.bool (fitGs (deep - 1) (room - K - 1) body)) ∧ Keep (fun b => b ≠ rb) W w' ∧ ∃ r, RoomAt w' rb r ∧ (fitGs (deep - 1) (room - K - 1) body = true → r = (room : Int) - (K : Int) - 1 - (snodess body : Int))) := qh fun W hW hR => by
     have := VB.out bA bc (deep - 1) (room - K - 1) rb W hW hb2 hb3 (Nat.le_succ_of_le htb) (by omega) (by omega) (by rw [show ((room - K - 1 : Nat) : Int) = (room : Int) - (K : Int) - 1 from by omega]; exact hR)
     rwa [show ((deep - 1 : Nat) : Int) = (deep : Int) - 1 from by omega, show ((room - K - 1 : Nat) : Int) = (room : Int) - (K : Int) - 1 from by omega] at this
    cases hfb : fitGs (deep - 1) (room - K - 1) body with
    | false =>
     have F : Hid (fitGs deep room l = false) := qh (by
      cases hrb : rightGs (deep - 1) body with
      | false => exact fit_no1 (HNO.out (by rw [RG.out, hrb]; simp))
      | true =>
       refine fit_no2 ?_
       have : ¬ snodess body ≤ room - K - 1 := fun h => by rw [fit_yes hrb h] at hfb; cases hfb
       omega)
     rcases MM.out with m2 | ⟨m2, m3⟩
     all_goals
      go_wp2_with fail
      refine (SH.out _ KW.out (GK.out.kept KW.out (fun _ _ h => h)).any).mono ?_
      rintro e w1 ⟨rfl, b1⟩
      have KW1 := qh (KW.out.trans (Keep.of_below (S := fun b => b ≠ rb) b1) (fun _ _ h => h))
      have R1 := qh (room_below RM1.out b1)
      have BX1 : Hid (BoxB w1 wr.heap.size [.int .i64 xk, .string xs, .int .i64 tk, .int .i64 tn, .string ts, .slice tA tm tc, .slice bA body.length bc, .slice eA els.length ec]) := qh (BoxB.below (BoxB.lit (by simp)) b1)
      have y0 := BX1.out 0 _ rfl
      have y6 := BX1.out 6 _ rfl
      rw [hs]
      clear b1
      go_wp2_with fail
      refine (VB'.out _ (RB.out.kept KW1.out (fun _ _ h => h)) R1.out).mono ?_
      rintro e w2 ⟨rfl, k2, r2, hr2, hv2⟩
      have KW2 := qh (KW1.out.trans k2 (fun _ _ h => h))
      have R2 := qh hr2
      have HV2 := qh hv2
      have BX2 : Hid (BoxB w2 wr.heap.size [.int .i64 xk, .string xs, .int .i64 tk, .int .i64 tn, .string ts, .slice tA tm tc, .slice bA body.length bc, .slice eA els.length ec]) := qh (BX1.out.keepS k2 (by show wr.heap.size ≠ rb; omega))
      have z7 := BX2.out 7 _ rfl
      rw [hfb]
      clear k2 hr2 hv2 y0 y6
      go_wp2_with fail
      go_ret
      exact ⟨ret_bool F.out.symm, KP.out.trans KW2.out (fun _ _ h => h), _, R2.out, fun h => by rw [F.out] at h; cases h⟩
    | true =>
     obtain ⟨hrb, hnb⟩ := fit_inv hfb
     have VE' : Hid (∀ W, StRow (fun b => b ≠ rb) W eA els → RoomAt W rb ((room : Int) - (K : Int) - 1 - (snodess body : Int)) → Calls Tryz.prog 74 #[.slice eA els.length ec, .int .i64 ((deep : Int) - 1), .pointer (some ⟨rb, 0, none⟩)] W fun e w' => e = .returned (.bool (fitGs (deep - 1) (room - K - 1 - snodess body) els)) ∧ Keep (fun b => b ≠ rb) W w' ∧ ∃ r, RoomAt w' rb r ∧ (fitGs (deep - 1) (room - K - 1 - snodess body) els = true → r = (room : Int) - (K : Int) - 1 - (snodess body : Int) - (snodess els : Int))) := qh fun W hW hR => by
      have := VE.out eA ec (deep - 1) (room - K - 1 - snodess body) rb W hW he2 he3 (Nat.le_succ_of_le hte) (by omega) (by omega) (by rw [show ((room - K - 1 - snodess body : Nat) : Int) = (room : Int) - (K : Int) - 1 - (snodess body : Int) from by omega]; exact hR)
      rwa [show ((deep - 1 : Nat) : Int) = (deep : Int) - 1 from by omega, show ((room - K - 1 - snodess body : Nat) : Int) = (room : Int) - (K : Int) - 1 - (snodess body : Int) from by omega] at this
     cases hfe : fitGs (deep - 1) (room - K - 1 - snodess body) els with
     | false =>
      have F : Hid (fitGs deep room l = false) := qh (by
       cases hre : rightGs (deep - 1) els with
       | false => exact fit_no1 (HNO.out (by rw [RG.out, hre]; simp))
       | true =>
        refine fit_no2 ?_
        have : ¬ snodess els ≤ room - K - 1 - snodess body := fun h => by rw [fit_yes hre h] at hfe; cases hfe
        omega)
      rcases MM.out with m2 | ⟨m2, m3⟩
      all_goals
       go_wp2_with fail
       refine (SH.out _ KW.out (GK.out.kept KW.out (fun _ _ h => h)).any).mono ?_
       rintro e w1 ⟨rfl, b1⟩
       have KW1 := qh (KW.out.trans (Keep.of_below (S := fun b => b ≠ rb) b1) (fun _ _ h => h))
       have R1 := qh (room_below RM1.out b1)
       have BX1 : Hid (BoxB w1 wr.heap.size [.int .i64 xk, .string xs, .int .i64 tk, .int .i64 tn, .string ts, .slice tA tm tc, .slice bA body.length bc, .slice eA els.length ec]) := qh (BoxB.below (BoxB.lit (by simp)) b1)
       have y0 := BX1.out 0 _ rfl
       have y6 := BX1.out 6 _ rfl
       rw [hs]
       clear b1
       go_wp2_with fail
       refine (VB'.out _ (RB.out.kept KW1.out (fun _ _ h => h)) R1.out).mono ?_
       rintro e w2 ⟨rfl, k2, r2, hr2, hv2⟩
       have KW2 := qh (KW1.out.trans k2 (fun _ _ h => h))
       have R2 := qh hr2
       have HV2 := qh hv2
       have BX2 : Hid (BoxB w2 wr.heap.size [.int .i64 xk, .string xs, .int .i64 tk, .int .i64 tn, .string ts, .slice tA tm tc, .slice bA body.length bc, .slice eA els.length ec]) := qh (BX1.out.keepS k2 (by show wr.heap.size ≠ rb; omega))
       have z7 := BX2.out 7 _ rfl
       rw [hfb]
       clear k2 hr2 hv2 y0 y6
       go_wp2_with fail
       refine (VE'.out _ (RE.out.kept KW2.out (fun _ _ h => h)) (by rw [← HV2.out hfb]; exact R2.out)).mono ?_
       rintro e w3 ⟨rfl, k3, r3, hr3, hv3⟩
       have KW3 := qh (KW2.out.trans k3 (fun _ _ h => h))
       have R3 := qh hr3
       rw [hfe]
       clear k3 hr3 hv3
       go_wp2_with fail
       go_ret
       exact ⟨ret_bool F.out.symm, KP.out.trans KW3.out (fun _ _ h => h), _, R3.out, fun h => by rw [F.out] at h; cases h⟩
     | true =>
      obtain ⟨hre, hne⟩ := fit_inv hfe
      have T : Hid (rightGs deep (l.take (j + 1)) = true) := qh (by rw [HTK.out, HRT.out, RG.out, hrb, hre]; simp [hd])
      have HS : Hid (snodess (l.take (j + 1)) ≤ room ∧ ((room : Int) - (K : Int) - 1 - (snodess body : Int) - (snodess els : Int) = (room : Int) - (snodess (l.take (j + 1)) : Int))) := qh (by omega)
      rcases MM.out with m2 | ⟨m2, m3⟩
      all_goals
       go_wp2_with fail
       refine (SH.out _ KW.out (GK.out.kept KW.out (fun _ _ h => h)).any).mono ?_
       rintro e w1 ⟨rfl, b1⟩
       have KW1 := qh (KW.out.trans (Keep.of_below (S := fun b => b ≠ rb) b1) (fun _ _ h => h))
       have R1 := qh (room_below RM1.out b1)
       have BX1 : Hid (BoxB w1 wr.heap.size [.int .i64 xk, .string xs, .int .i64 tk, .int .i64 tn, .string ts, .slice tA tm tc, .slice bA body.length bc, .slice eA els.length ec]) := qh (BoxB.below (BoxB.lit (by simp)) b1)
       have y0 := BX1.out 0 _ rfl
       have y6 := BX1.out 6 _ rfl
       rw [hs]
       clear b1
       go_wp2_with fail
       refine (VB'.out _ (RB.out.kept KW1.out (fun _ _ h => h)) R1.out).mono ?_
       rintro e w2 ⟨rfl, k2, r2, hr2, hv2⟩
       have KW2 := qh (KW1.out.trans k2 (fun _ _ h => h))
       have R2 := qh hr2
       have HV2 := qh hv2
       have BX2 : Hid (BoxB w2 wr.heap.size [.int .i64 xk, .string xs, .int .i64 tk, .int .i64 tn, .string ts, .slice tA tm tc, .slice bA body.length bc, .slice eA els.length ec]) := qh (BX1.out.keepS k2 (by show wr.heap.size ≠ rb; omega))
       have z7 := BX2.out 7 _ rfl
       rw [hfb]
       clear k2 hr2 hv2 y0 y6
       go_wp2_with fail
       refine (VE'.out _ (RE.out.kept KW2.out (fun _ _ h => h)) (by rw [← HV2.out hfb]; exact R2.out)).mono ?_
       rintro e w3 ⟨rfl, k3, r3, hr3, hv3⟩
       have KW3 := qh (KW2.out.trans k3 (fun _ _ h => h))
       have R3 := qh hr3
       have HV3 := qh hv3
       rw [hfe]
       clear k3 hr3 hv3
       go_wp2_with fail
       go_roundw
       case rel => exact ⟨j + 1, by omega, by go_num, qh ⟨KP.out.trans KW3.out (fun _ _ h => h), T.out, HS.out.1, by rw [← HS.out.2, ← HV3.out hfe]; exact R3.out⟩⟩
       case measure => simp [intOf]; omega
theorem impl_stmtsFit (l : List St) : FiC l := by
 induction hN : snodess l using Nat.strongRecOn generalizing l with
 | ind N ih =>
  refine impl_stmtsFit_at l fun g hg t k s body els e => ?_
  have := snodess_le hg
  have h2 : snodes g = 1 + snodess body + snodess els := by rw [e, snodes]
  exact ⟨ih _ (by omega) body rfl, ih _ (by omega) els rfl⟩
end Go.Proofs.YtnmblfonmfjoeaaGreatDoor
