/- Several texts in one: StFit, StDrP. -/
import Derived.Test.YtefcdpkficojgaaDoorKb24
import Derived.OneCell
import Derived.Test.YtefcdpkficojgaaDoorKb11
import Derived.Test.YtefcdpkficojgaaDoorKb12
namespace Go.Proofs.YtefcdpkficojgaaDoor
open Go.RowKit
set_option linter.unusedVariables false


noncomputable def fitGs (deep room : Nat) (l : List St) : Bool := rightGs deep l && decide (snodess l ≤ room)
theorem fit_no1 {deep room : Nat} {l : List St} (h : rightGs deep l = false) : fitGs deep room l = false := by simp [fitGs, h]
theorem fit_no2 {deep room : Nat} {l : List St} (h : room < snodess l) : fitGs deep room l = false := by
  have : decide (snodess l ≤ room) = false := decide_no (by omega)
  simp [fitGs, this]
theorem fit_yes {deep room : Nat} {l : List St} (h : rightGs deep l = true) (h2 : snodess l ≤ room) : fitGs deep room l = true := by simp [fitGs, h, h2]
theorem fit_inv {deep room : Nat} {l : List St} (h : fitGs deep room l = true) : rightGs deep l = true ∧ snodess l ≤ room := by simpa [fitGs] using h
/-- a statement that is right and holds none: it counts for one -/
theorem plain_one {k : Int} {s : ByteArray} {t : Tm} {b e : List St} (h : shapeG (.mk k s t b e) = true) (hm : manyB k = false) : snodes (.mk k s t b e) = 1 := by
  obtain ⟨m2, m3⟩ := many_no hm
  rw [beq_eq_false_iff_ne] at m2 m3
  simp only [shapeG, shapeB] at h
  have key : ((b.length : Int) == 0) = true ∧ ((e.length : Int) == 0) = true := by
    by_cases c1 : k = 1
    · rw [if_pos c1] at h; simp only [Bool.and_eq_true] at h; exact ⟨h.1.2, h.2⟩
    · rw [if_neg c1, if_neg m2, if_neg m3] at h
      by_cases c4 : k = 4 ∨ k = 5 ∨ k = 6 ∨ k = 7
      · rw [if_pos c4] at h; simp only [Bool.and_eq_true] at h; exact ⟨h.1.2, h.2⟩
      · rw [if_neg c4] at h
        by_cases c8 : k = 8
        · rw [if_pos c8] at h; simp only [Bool.and_eq_true] at h; exact ⟨h.1.2, h.2⟩
        · rw [if_neg c8] at h; cases h
  have hb : b = [] := List.eq_nil_of_length_eq_zero (by have := key.1; rw [beq_iff_eq] at this; omega)
  have he : e = [] := List.eq_nil_of_length_eq_zero (by have := key.2; rw [beq_iff_eq] at this; omega)
  subst hb he
  rw [snodes, snodess]
def RoomAt (w : World) (rb : Nat) (r : Int) : Prop := w.heap[rb]? = some (.cells #[.int .i64 r] 3 (0, 0))
abbrev FiC (l : List St) : Prop := ∀ (A : Option Addr) (c : Nat) (deep room rb : Nat) (w : World), StRow (fun b => b ≠ rb) w A l → l.length ≤ c → c ≤ maxLen → totGs l ≤ 1048577 → deep ≤ 6 → room ≤ 60 → RoomAt w rb (room : Int) →
  Calls Tryd.prog 143 #[.slice A l.length c, .int .i64 (deep : Int), .pointer (some ⟨rb, 0, none⟩)] w fun e w' => e = .returned (.bool (fitGs deep room l)) ∧ Keep (fun b => b ≠ rb) w w' ∧ ∃ r, RoomAt w' rb r ∧ (fitGs deep room l = true → r = (room : Int) - (snodess l : Int))
theorem room_alloc {w : World} {rb : Nat} {r : Int} (h : RoomAt w rb r) (o : Obj) : RoomAt (w.alloc o) rb r := (heap_alloc_lt (lt_of_block h)).trans h
theorem room_below {w w' : World} {rb : Nat} {r : Int} (h : RoomAt w rb r) (hb : Below w.heap.size w w') : RoomAt w' rb r := (hb.block rb (lt_of_block h)).trans h
set_option maxHeartbeats 3200000 in
theorem impl_stmtsFit_at (l : List St) (ih : ∀ g ∈ l, ∀ t k s body els, g = .mk k s t body els → FiC body ∧ FiC els) : FiC l := by
  intro A c deep room rb w row hl hc htot hdeep hroom hR
  unfold maxLen at hc
  have IH := Lib.hid ih
  have RW := Lib.hid row
  have R0 := Lib.hid hR
  clear ih row hR
  go_enter Tryd.func143, Tryd.ntmps143
  go_wp2_with fail
  go_loopw [11] (fun i wr => ∃ j : Nat, j ≤ l.length ∧ i = .int .i64 j ∧ Hid (Keep (fun b => b ≠ rb) w wr ∧ rightGs deep (l.take j) = true ∧ snodess (l.take j) ≤ room ∧ RoomAt wr rb ((room : Int) - (snodess (l.take j) : Int)))) (fun i _ => l.length - (intOf i).toNat)
  case atStart => exact ⟨0, Nat.zero_le _, rfl, Lib.hid ⟨Keep.refl _ _, by simp [rightGs], by simp [snodess], by simp only [List.take_zero, snodess]; simpa using R0.out⟩⟩
  case round =>
    obtain ⟨j, hj, rfl, HR⟩ := hrel
    by_cases hlt : j < l.length
    case neg =>
      go_wp2_with fail
      go_ret
      obtain ⟨k1, k2, k3, k4⟩ := HR.out
      rw [List.take_of_length_le (by omega)] at k2 k3 k4
      exact ⟨ret_bool (fit_yes k2 k3).symm, k1, _, k4, fun _ => rfl⟩
    obtain ⟨hkeep, hright, hle, hrm⟩ := HR.out
    obtain ⟨b, off, x, rfl, hbF, ⟨d0, d1, d2, d3, d4, d5, d6, d7⟩, hg⟩ := rd_stmt (RW.out.kept hkeep (fun _ _ h => h)) hlt
    obtain ⟨t, body, els, heq, _, _, _, hb1, hb2, hb3, rb', he1, he2, he3, re⟩ := hg.inv
    have VB := Lib.hid (IH.out l[j] (List.getElem_mem hlt) t _ _ body els heq).1
    have VE := Lib.hid (IH.out l[j] (List.getElem_mem hlt) t _ _ body els heq).2
    have htj : totG l[j] ≤ 1048576 := by have := totGs_lt (List.getElem_mem hlt); omega
    have htb : totGs body ≤ 1048576 := by rw [heq] at htj; exact Nat.le_trans totG_body.1 htj
    have hte : totGs els ≤ 1048576 := by rw [heq] at htj; exact Nat.le_trans totG_body.2 htj
    have hbl := Nat.le_trans (totGs_len body) htb
    have hel := Nat.le_trans (totGs_len els) hte
    have HNO := Lib.hid (rightGs_no deep l j hlt)
    have HTK := Lib.hid (rightGs_take deep l j hlt)
    have hst := snodess_take l j hlt
    have hsp := snodess_split l j hlt
    have hsg : snodes l[j] = 1 + snodess body + snodess els := by rw [heq, snodes]
    have HEQ := Lib.hid heq
    have HG := Lib.hid hg.any
    have RB := Lib.hid rb'
    have RE := Lib.hid re
    have KP := Lib.hid hkeep
    have HRT := Lib.hid hright
    have HRM := Lib.hid hrm
    obtain ⟨xk, xs, tk, tn, ts, tA, tm, tc, bA, bm, bc, eA, em, ec⟩ := x
    simp only at hb1 he1 hb2 hb3 he2 he3 d0 d1 d2 d3 d4 d5 d6 d7 RB RE HEQ
    subst hb1 he1
    have h0k : (0 : Int) ≤ (j : Int) := by omega
    have c0 := cell_of_one hrm
    have f0 := free_of_one hrm
    have lrb := lt_of_block hrm
    have lb := cell_lt d0
    have SH : Hid (∀ W, Keep (fun b => b ≠ rb) wr W → StIs AnyB W ⟨xk, xs, tk, tn, ts, tA, tm, tc, bA, body.length, bc, eA, els.length, ec⟩ l[j] → Calls Tryd.prog 192 #[.agg #[.int .i64 xk, .string xs, .int .i64 tk, .int .i64 tn, .string ts, .slice tA tm tc, .slice bA body.length bc, .slice eA els.length ec]] W fun e w' => e = .returned (.bool (shapeG l[j])) ∧ Below W.heap.size W w') := Lib.hid fun W _ hW => impl_shape l[j] ⟨xk, xs, tk, tn, ts, tA, tm, tc, bA, body.length, bc, eA, els.length, ec⟩ W hW hbl hel
    have GK := Lib.hid hg
    clear heq hg rb' re htj hkeep hright hrm HR
    generalize hK : snodess (l.take j) = K at *
    by_cases hr0 : room = K
    · have F := Lib.hid (fit_no2 (deep := deep) (room := room) (l := l) (by omega))
      have hlt0 : (room : Int) - (K : Int) - 1 < 0 := by omega
      clear hr0 hst hsp hsg
      go_wp2_with fail
      go_ret
      refine ⟨ret_bool F.out.symm, KP.out.trans (((Keep.refl _ _).setCell (p := ⟨rb, 0, none⟩) (fun h => h rfl) _).alloc _) (fun _ _ h => h), _, room_alloc (one_setCell HRM.out) _, fun h => by rw [F.out] at h; cases h⟩
    have hge : 0 ≤ (room : Int) - (K : Int) - 1 := by omega
    have KW : Hid (Keep (fun b => b ≠ rb) wr ((wr.setCell ⟨rb, 0, none⟩ (.int .i64 ((room : Int) - (K : Int) - 1))).alloc (.cells #[.int .i64 xk, .string xs, .int .i64 tk, .int .i64 tn, .string ts, .slice tA tm tc, .slice bA body.length bc, .slice eA els.length ec] 104))) := Lib.hid (((Keep.refl _ _).setCell (p := ⟨rb, 0, none⟩) (fun h => h rfl) _).alloc _)
    have RM1 : Hid (RoomAt ((wr.setCell ⟨rb, 0, none⟩ (.int .i64 ((room : Int) - (K : Int) - 1))).alloc (.cells #[.int .i64 xk, .string xs, .int .i64 tk, .int .i64 tn, .string ts, .slice tA tm tc, .slice bA body.length bc, .slice eA els.length ec] 104)) rb ((room : Int) - (K : Int) - 1)) := Lib.hid (room_alloc (one_setCell HRM.out) _)
    cases hs : shapeG l[j] with
    | false =>
      have F := Lib.hid (fit_no1 (room := room) (HNO.out (rightG_shape hs)))
      go_wp2_with fail
      refine (SH.out _ KW.out (GK.out.kept KW.out (fun _ _ h => h)).any).mono ?_
      rintro e w1 ⟨rfl, b1⟩
      have K1 := Lib.hid (KP.out.trans (KW.out.trans (Keep.of_below (S := fun b => b ≠ rb) b1) (fun _ _ h => h)) (fun _ _ h => h))
      have R1 := Lib.hid (room_below RM1.out b1)
      rw [hs]
      clear b1
      go_wp2_with fail
      go_ret
      exact ⟨ret_bool F.out.symm, K1.out, _, R1.out, fun h => by rw [F.out] at h; cases h⟩
    | true =>
      cases hm : manyB xk with
      | false =>
        obtain ⟨m2, m3⟩ := many_no hm
        have n2 : (xk != 2) = true := by simpa using m2
        have n3 : (xk != 3) = true := by simpa using m3
        have T : Hid (rightGs deep (l.take (j + 1)) = true) := Lib.hid (by rw [HTK.out, HRT.out, HEQ.out]; rw [HEQ.out] at hs; rw [rightG_plain hs hm]; rfl)
        have h1 : snodes l[j] = 1 := by rw [HEQ.out] at hs ⊢; exact plain_one hs hm
        have HS : Hid (snodess (l.take (j + 1)) ≤ room ∧ ((room : Int) - (K : Int) - 1 = (room : Int) - (snodess (l.take (j + 1)) : Int))) := Lib.hid (by omega)
        clear hst hsp hsg h1
        go_wp2_with fail
        refine (SH.out _ KW.out (GK.out.kept KW.out (fun _ _ h => h)).any).mono ?_
        rintro e w1 ⟨rfl, b1⟩
        have K1 := Lib.hid (KP.out.trans (KW.out.trans (Keep.of_below (S := fun b => b ≠ rb) b1) (fun _ _ h => h)) (fun _ _ h => h))
        have R1 := Lib.hid (room_below RM1.out b1)
        have BX1 : Hid (BoxB w1 wr.heap.size [.int .i64 xk, .string xs, .int .i64 tk, .int .i64 tn, .string ts, .slice tA tm tc, .slice bA body.length bc, .slice eA els.length ec]) := Lib.hid (BoxB.below (BoxB.lit (by simp)) b1)
        have y0 := BX1.out 0 _ rfl
        rw [hs]
        clear b1
        go_wp2_with fail
        go_roundw
        case rel => exact ⟨j + 1, by omega, by go_num, Lib.hid ⟨K1.out, T.out, HS.out.1, by rw [← HS.out.2]; exact R1.out⟩⟩
        case measure => simp [intOf]; omega
      | true =>
        have RG : Hid (rightG deep l[j] = (decide (deep ≠ 0) && rightGs (deep - 1) body && rightGs (deep - 1) els)) := Lib.hid (by rw [HEQ.out] at hs ⊢; exact rightG_many hs hm)
        have MM : Hid (((xk != 2) = false) ∨ ((xk != 2) = true ∧ (xk != 3) = false)) := Lib.hid (by
          rcases many_yes hm with m2 | ⟨m2, m3⟩
          · exact .inl (by rw [beq_iff_eq] at m2; simp [m2])
          · exact .inr ⟨by rw [beq_eq_false_iff_ne] at m2; simpa using m2, by rw [beq_iff_eq] at m3; simp [m3]⟩)
        by_cases hd : deep = 0
        · have F := Lib.hid (fit_no1 (room := room) (HNO.out (by rw [RG.out, hd]; simp)))
          have hd' : ((deep : Int) == 0) = true := by simp [hd]
          clear hd
          rcases MM.out with m2 | ⟨m2, m3⟩
          all_goals
            go_wp2_with fail
            refine (SH.out _ KW.out (GK.out.kept KW.out (fun _ _ h => h)).any).mono ?_
            rintro e w1 ⟨rfl, b1⟩
            have KW1 := Lib.hid (KW.out.trans (Keep.of_below (S := fun b => b ≠ rb) b1) (fun _ _ h => h))
            have R1 := Lib.hid (room_below RM1.out b1)
            have BX1 : Hid (BoxB w1 wr.heap.size [.int .i64 xk, .string xs, .int .i64 tk, .int .i64 tn, .string ts, .slice tA tm tc, .slice bA body.length bc, .slice eA els.length ec]) := Lib.hid (BoxB.below (BoxB.lit (by simp)) b1)
            have y0 := BX1.out 0 _ rfl
            have y6 := BX1.out 6 _ rfl
            rw [hs]
            clear b1
            go_wp2_with fail
            go_ret
            exact ⟨ret_bool F.out.symm, KP.out.trans KW1.out (fun _ _ h => h), _, R1.out, fun h => by rw [F.out] at h; cases h⟩
        have hd' : ((deep : Int) == 0) = false := beq_eq_false_iff_ne.2 (by omega)
        have hdi : 1 ≤ (deep : Int) := by omega
        have VB' : Hid (∀ W, StRow (fun b => b ≠ rb) W bA body → RoomAt W rb ((room : Int) - (K : Int) - 1) → Calls Tryd.prog 143 #[.slice bA body.length bc, .int .i64 ((deep : Int) - 1), .pointer (some ⟨rb, 0, none⟩)] W fun e w' => e = .returned (.bool (fitGs (deep - 1) (room - K - 1) body)) ∧ Keep (fun b => b ≠ rb) W w' ∧ ∃ r, RoomAt w' rb r ∧ (fitGs (deep - 1) (room - K - 1) body = true → r = (room : Int) - (K : Int) - 1 - (snodess body : Int))) := Lib.hid fun W hW hR => by
          have := VB.out bA bc (deep - 1) (room - K - 1) rb W hW hb2 hb3 (Nat.le_succ_of_le htb) (by omega) (by omega) (by rw [show ((room - K - 1 : Nat) : Int) = (room : Int) - (K : Int) - 1 from by omega]; exact hR)
          rwa [show ((deep - 1 : Nat) : Int) = (deep : Int) - 1 from by omega, show ((room - K - 1 : Nat) : Int) = (room : Int) - (K : Int) - 1 from by omega] at this
        cases hfb : fitGs (deep - 1) (room - K - 1) body with
        | false =>
          have F : Hid (fitGs deep room l = false) := Lib.hid (by
            cases hrb : rightGs (deep - 1) body with
            | false => exact fit_no1 (HNO.out (by rw [RG.out, hrb]; simp))
            | true =>
              refine fit_no2 ?_
              have : ¬ snodess body ≤ room - K - 1 := fun h => by rw [fit_yes hrb h] at hfb; cases hfb
              omega)
          rcases MM.out with m2 | ⟨m2, m3⟩
          all_goals
            go_wp2_with fail
            refine (SH.out _ KW.out (GK.out.kept KW.out (fun _ _ h => h)).any).mono ?_
            rintro e w1 ⟨rfl, b1⟩
            have KW1 := Lib.hid (KW.out.trans (Keep.of_below (S := fun b => b ≠ rb) b1) (fun _ _ h => h))
            have R1 := Lib.hid (room_below RM1.out b1)
            have BX1 : Hid (BoxB w1 wr.heap.size [.int .i64 xk, .string xs, .int .i64 tk, .int .i64 tn, .string ts, .slice tA tm tc, .slice bA body.length bc, .slice eA els.length ec]) := Lib.hid (BoxB.below (BoxB.lit (by simp)) b1)
            have y0 := BX1.out 0 _ rfl
            have y6 := BX1.out 6 _ rfl
            rw [hs]
            clear b1
            go_wp2_with fail
            refine (VB'.out _ (RB.out.kept KW1.out (fun _ _ h => h)) R1.out).mono ?_
            rintro e w2 ⟨rfl, k2, r2, hr2, hv2⟩
            have KW2 := Lib.hid (KW1.out.trans k2 (fun _ _ h => h))
            have R2 := Lib.hid hr2
            have HV2 := Lib.hid hv2
            have BX2 : Hid (BoxB w2 wr.heap.size [.int .i64 xk, .string xs, .int .i64 tk, .int .i64 tn, .string ts, .slice tA tm tc, .slice bA body.length bc, .slice eA els.length ec]) := Lib.hid (BX1.out.keepS k2 (by show wr.heap.size ≠ rb; omega))
            have z7 := BX2.out 7 _ rfl
            rw [hfb]
            clear k2 hr2 hv2 y0 y6
            go_wp2_with fail
            go_ret
            exact ⟨ret_bool F.out.symm, KP.out.trans KW2.out (fun _ _ h => h), _, R2.out, fun h => by rw [F.out] at h; cases h⟩
        | true =>
          obtain ⟨hrb, hnb⟩ := fit_inv hfb
          have VE' : Hid (∀ W, StRow (fun b => b ≠ rb) W eA els → RoomAt W rb ((room : Int) - (K : Int) - 1 - (snodess body : Int)) → Calls Tryd.prog 143 #[.slice eA els.length ec, .int .i64 ((deep : Int) - 1), .pointer (some ⟨rb, 0, none⟩)] W fun e w' => e = .returned (.bool (fitGs (deep - 1) (room - K - 1 - snodess body) els)) ∧ Keep (fun b => b ≠ rb) W w' ∧ ∃ r, RoomAt w' rb r ∧ (fitGs (deep - 1) (room - K - 1 - snodess body) els = true → r = (room : Int) - (K : Int) - 1 - (snodess body : Int) - (snodess els : Int))) := Lib.hid fun W hW hR => by
            have := VE.out eA ec (deep - 1) (room - K - 1 - snodess body) rb W hW he2 he3 (Nat.le_succ_of_le hte) (by omega) (by omega) (by rw [show ((room - K - 1 - snodess body : Nat) : Int) = (room : Int) - (K : Int) - 1 - (snodess body : Int) from by omega]; exact hR)
            rwa [show ((deep - 1 : Nat) : Int) = (deep : Int) - 1 from by omega, show ((room - K - 1 - snodess body : Nat) : Int) = (room : Int) - (K : Int) - 1 - (snodess body : Int) from by omega] at this
          cases hfe : fitGs (deep - 1) (room - K - 1 - snodess body) els with
          | false =>
            have F : Hid (fitGs deep room l = false) := Lib.hid (by
              cases hre : rightGs (deep - 1) els with
              | false => exact fit_no1 (HNO.out (by rw [RG.out, hre]; simp))
              | true =>
                refine fit_no2 ?_
                have : ¬ snodess els ≤ room - K - 1 - snodess body := fun h => by rw [fit_yes hre h] at hfe; cases hfe
                omega)
            rcases MM.out with m2 | ⟨m2, m3⟩
            all_goals
              go_wp2_with fail
              refine (SH.out _ KW.out (GK.out.kept KW.out (fun _ _ h => h)).any).mono ?_
              rintro e w1 ⟨rfl, b1⟩
              have KW1 := Lib.hid (KW.out.trans (Keep.of_below (S := fun b => b ≠ rb) b1) (fun _ _ h => h))
              have R1 := Lib.hid (room_below RM1.out b1)
              have BX1 : Hid (BoxB w1 wr.heap.size [.int .i64 xk, .string xs, .int .i64 tk, .int .i64 tn, .string ts, .slice tA tm tc, .slice bA body.length bc, .slice eA els.length ec]) := Lib.hid (BoxB.below (BoxB.lit (by simp)) b1)
              have y0 := BX1.out 0 _ rfl
              have y6 := BX1.out 6 _ rfl
              rw [hs]
              clear b1
              go_wp2_with fail
              refine (VB'.out _ (RB.out.kept KW1.out (fun _ _ h => h)) R1.out).mono ?_
              rintro e w2 ⟨rfl, k2, r2, hr2, hv2⟩
              have KW2 := Lib.hid (KW1.out.trans k2 (fun _ _ h => h))
              have R2 := Lib.hid hr2
              have HV2 := Lib.hid hv2
              have BX2 : Hid (BoxB w2 wr.heap.size [.int .i64 xk, .string xs, .int .i64 tk, .int .i64 tn, .string ts, .slice tA tm tc, .slice bA body.length bc, .slice eA els.length ec]) := Lib.hid (BX1.out.keepS k2 (by show wr.heap.size ≠ rb; omega))
              have z7 := BX2.out 7 _ rfl
              rw [hfb]
              clear k2 hr2 hv2 y0 y6
              go_wp2_with fail
              refine (VE'.out _ (RE.out.kept KW2.out (fun _ _ h => h)) (by rw [← HV2.out hfb]; exact R2.out)).mono ?_
              rintro e w3 ⟨rfl, k3, r3, hr3, hv3⟩
              have KW3 := Lib.hid (KW2.out.trans k3 (fun _ _ h => h))
              have R3 := Lib.hid hr3
              rw [hfe]
              clear k3 hr3 hv3
              go_wp2_with fail
              go_ret
              exact ⟨ret_bool F.out.symm, KP.out.trans KW3.out (fun _ _ h => h), _, R3.out, fun h => by rw [F.out] at h; cases h⟩
          | true =>
            obtain ⟨hre, hne⟩ := fit_inv hfe
            have T : Hid (rightGs deep (l.take (j + 1)) = true) := Lib.hid (by rw [HTK.out, HRT.out, RG.out, hrb, hre]; simp [hd])
            have HS : Hid (snodess (l.take (j + 1)) ≤ room ∧ ((room : Int) - (K : Int) - 1 - (snodess body : Int) - (snodess els : Int) = (room : Int) - (snodess (l.take (j + 1)) : Int))) := Lib.hid (by omega)
            rcases MM.out with m2 | ⟨m2, m3⟩
            all_goals
              go_wp2_with fail
              refine (SH.out _ KW.out (GK.out.kept KW.out (fun _ _ h => h)).any).mono ?_
              rintro e w1 ⟨rfl, b1⟩
              have KW1 := Lib.hid (KW.out.trans (Keep.of_below (S := fun b => b ≠ rb) b1) (fun _ _ h => h))
              have R1 := Lib.hid (room_below RM1.out b1)
              have BX1 : Hid (BoxB w1 wr.heap.size [.int .i64 xk, .string xs, .int .i64 tk, .int .i64 tn, .string ts, .slice tA tm tc, .slice bA body.length bc, .slice eA els.length ec]) := Lib.hid (BoxB.below (BoxB.lit (by simp)) b1)
              have y0 := BX1.out 0 _ rfl
              have y6 := BX1.out 6 _ rfl
              rw [hs]
              clear b1
              go_wp2_with fail
              refine (VB'.out _ (RB.out.kept KW1.out (fun _ _ h => h)) R1.out).mono ?_
              rintro e w2 ⟨rfl, k2, r2, hr2, hv2⟩
              have KW2 := Lib.hid (KW1.out.trans k2 (fun _ _ h => h))
              have R2 := Lib.hid hr2
              have HV2 := Lib.hid hv2
              have BX2 : Hid (BoxB w2 wr.heap.size [.int .i64 xk, .string xs, .int .i64 tk, .int .i64 tn, .string ts, .slice tA tm tc, .slice bA body.length bc, .slice eA els.length ec]) := Lib.hid (BX1.out.keepS k2 (by show wr.heap.size ≠ rb; omega))
              have z7 := BX2.out 7 _ rfl
              rw [hfb]
              clear k2 hr2 hv2 y0 y6
              go_wp2_with fail
              refine (VE'.out _ (RE.out.kept KW2.out (fun _ _ h => h)) (by rw [← HV2.out hfb]; exact R2.out)).mono ?_
              rintro e w3 ⟨rfl, k3, r3, hr3, hv3⟩
              have KW3 := Lib.hid (KW2.out.trans k3 (fun _ _ h => h))
              have R3 := Lib.hid hr3
              have HV3 := Lib.hid hv3
              rw [hfe]
              clear k3 hr3 hv3
              go_wp2_with fail
              go_roundw
              case rel => exact ⟨j + 1, by omega, by go_num, Lib.hid ⟨KP.out.trans KW3.out (fun _ _ h => h), T.out, HS.out.1, by rw [← HS.out.2, ← HV3.out hfe]; exact R3.out⟩⟩
              case measure => simp [intOf]; omega
theorem impl_stmtsFit (l : List St) : FiC l := by
  induction hN : snodess l using Nat.strongRecOn generalizing l with
  | ind N ih =>
    refine impl_stmtsFit_at l fun g hg t k s body els e => ?_
    have := snodess_le hg
    have h2 : snodes g = 1 + snodess body + snodess els := by rw [e, snodes]
    exact ⟨ih _ (by omega) body rfl, ih _ (by omega) els rfl⟩

def stN : List ByteArray := [⟨#[120]⟩, ⟨#[121]⟩, ⟨#[122]⟩]
def loN : List ByteArray := [⟨#[97]⟩, ⟨#[98]⟩, ⟨#[109]⟩]
def prN : List ByteArray := [⟨#[112]⟩, ⟨#[113]⟩, ⟨#[114]⟩]
def wordS (code : List UInt8) (ns : List ByteArray) (kd : Int) (k : Cur) : St × Cur := (.mk kd (pickS ns (belowD code 3 k).1) zeroTm [] [], (belowD code 3 k).2)
def setS (code : List UInt8) (k : Cur) : St × Cur := (.mk 1 (pickS stN (belowD code 3 k).1) (termD code 2 (belowD code 3 k).2).1 [] [], (termD code 2 (belowD code 3 k).2).2)
def skipS : St := .mk 8 ByteArray.empty zeroTm [] []
def flatS (code : List UInt8) (x : Int) (k : Cur) : St × Cur :=
  if x < 4 then setS code k else if x < 6 then wordS code loN 6 k else if x < 8 then wordS code loN 7 k else if x = 8 then wordS code prN 4 k else if x = 9 then wordS code prN 5 k else (skipS, k)
def listS (code : List UInt8) (one : Cur → St × Cur) : Nat → Nat → List St → Cur → List St × Cur
  | 0, _, acc, k => (acc, (belowD code 4 k).2)
  | f + 1, i, acc, k => if (i : Int) < (belowD code 4 k).1 then listS code one f (i + 1) (acc ++ [(one (belowD code 4 k).2).1]) (one (belowD code 4 k).2).2 else (acc, (belowD code 4 k).2)
def lstS (code : List UInt8) (one : Cur → St × Cur) (k : Cur) : List St × Cur := listS code one 3 0 [] k
def whileS (code : List UInt8) (one : Cur → St × Cur) (k : Cur) : St × Cur := (.mk 3 ByteArray.empty (termD code 1 k).1 (lstS code one (termD code 1 k).2).1 [], (lstS code one (termD code 1 k).2).2)
def ifS (code : List UInt8) (one : Cur → St × Cur) (k : Cur) : St × Cur :=
  if (belowD code 2 (lstS code one (termD code 1 k).2).2).1 = 0 then
    (.mk 2 ByteArray.empty (termD code 1 k).1 (lstS code one (termD code 1 k).2).1 (lstS code one (belowD code 2 (lstS code one (termD code 1 k).2).2).2).1, (lstS code one (belowD code 2 (lstS code one (termD code 1 k).2).2).2).2)
  else (.mk 2 ByteArray.empty (termD code 1 k).1 (lstS code one (termD code 1 k).2).1 [], (belowD code 2 (lstS code one (termD code 1 k).2).2).2)
def stS (code : List UInt8) : Nat → Cur → St × Cur
  | 0, k => flatS code (if 11 ≤ (belowD code 14 k).1 then (belowD code 14 k).1 - 6 else (belowD code 14 k).1) (belowD code 14 k).2
  | d + 1, k =>
    if (belowD code 14 k).1 < 11 then flatS code (belowD code 14 k).1 (belowD code 14 k).2
    else if (belowD code 14 k).1 = 11 then whileS code (stS code d) (belowD code 14 k).2
    else ifS code (stS code d) (belowD code 14 k).2
def drawnS (code : List UInt8) : List St := if snodess (lstS code (stS code 3) (curNew code)).1 ≤ 60 then (lstS code (stS code 3) (curNew code)).1 else [skipS]
theorem listS_stop {code : List UInt8} {one : Cur → St × Cur} {f i : Nat} {acc : List St} {k : Cur} (h : ¬ (i : Int) < (belowD code 4 k).1) : listS code one f i acc k = (acc, (belowD code 4 k).2) := by
  cases f with
  | zero => rw [listS]
  | succ f => rw [listS, if_neg h]
theorem listS_more {code : List UInt8} {one : Cur → St × Cur} {f i : Nat} {acc : List St} {k : Cur} (h : (i : Int) < (belowD code 4 k).1) : listS code one (f + 1) i acc k = listS code one f (i + 1) (acc ++ [(one (belowD code 4 k).2).1]) (one (belowD code 4 k).2).2 := by rw [listS, if_pos h]
theorem listS_all {code : List UInt8} {one : Cur → St × Cur} {P : St → Prop} (h : ∀ k, P (one k).1) (f : Nat) : ∀ i acc k, (∀ g ∈ acc, P g) → ∀ g ∈ (listS code one f i acc k).1, P g := by
  induction f with
  | zero => intro i acc k ha; rw [listS]; exact ha
  | succ f ih =>
    intro i acc k ha
    rw [listS]
    split
    · refine ih _ _ _ fun g hg => ?_
      rcases List.mem_append.1 hg with hg | hg
      · exact ha g hg
      · rw [List.mem_singleton] at hg; rw [hg]; exact h _
    · exact ha
theorem lstS_all {code : List UInt8} {one : Cur → St × Cur} {P : St → Prop} (h : ∀ k, P (one k).1) (k : Cur) : ∀ g ∈ (lstS code one k).1, P g := listS_all h 3 0 [] k (fun _ hg => by cases hg)
theorem listS_len {code : List UInt8} {one : Cur → St × Cur} (f : Nat) : ∀ i acc k, (listS code one f i acc k).1.length ≤ acc.length + f := by
  induction f with
  | zero => intro i acc k; rw [listS]; simp
  | succ f ih =>
    intro i acc k
    rw [listS]
    split
    · have := ih (i + 1) (acc ++ [(one (belowD code 4 k).2).1]) (one (belowD code 4 k).2).2
      rw [List.length_append, List.length_cons, List.length_nil] at this
      omega
    · show acc.length ≤ _; omega
theorem lstS_len {code : List UInt8} {one : Cur → St × Cur} (k : Cur) : (lstS code one k).1.length ≤ 3 := by unfold lstS; have := listS_len (code := code) (one := one) 3 0 [] k; simpa using this
theorem rightGs_all {deep : Nat} {l : List St} (h : ∀ g ∈ l, rightG deep g = true) : rightGs deep l = true := by
  induction l with
  | nil => rw [rightGs]
  | cons g r ih => rw [rightGs, h g (by simp), ih (fun x hx => h x (by simp [hx]))]; rfl
mutual
theorem rightG_le : (g : St) → ∀ {d d' : Nat}, d ≤ d' → rightG d g = true → rightG d' g = true
  | .mk k s t b e, d, d', h, hr => by
    have hs := right_shape hr
    cases hm : manyB k with
    | false => exact rightG_plain hs hm
    | true =>
      rw [rightG_many hs hm] at hr ⊢
      simp only [Bool.and_eq_true, decide_eq_true_eq] at hr ⊢
      exact ⟨⟨by omega, rightGs_le b (by omega) hr.1.2⟩, rightGs_le e (by omega) hr.2⟩
theorem rightGs_le : (l : List St) → ∀ {d d' : Nat}, d ≤ d' → rightGs d l = true → rightGs d' l = true
  | [], _, _, _, _ => by rw [rightGs]
  | g :: r, d, d', h, hr => by
    rw [rightGs, Bool.and_eq_true] at hr ⊢
    exact ⟨rightG_le g h hr.1, rightGs_le r h hr.2⟩
end
theorem set_right {s : ByteArray} {t : Tm} (hs : isNameL s.data.toList = true) (ht : okT 6 t = true) (deep : Nat) : rightG deep (.mk 1 s t [] []) = true := by
  refine rightG_plain ?_ rfl
  rw [shapeG, shapeB, if_pos rfl, hs, ht]; rfl
theorem word_right {k : Int} {s : ByteArray} (hk : k = 4 ∨ k = 5 ∨ k = 6 ∨ k = 7) (hs : isNameL s.data.toList = true) (deep : Nat) : rightG deep (.mk k s zeroTm [] []) = true := by
  refine rightG_plain ?_ (by rcases hk with rfl | rfl | rfl | rfl <;> rfl)
  rw [shapeG, shapeB, if_neg (by omega), if_neg (by omega), if_neg (by omega), if_pos hk, hs, sameB_yes rfl]; rfl
theorem skip_right (deep : Nat) : rightG deep skipS = true := by
  unfold skipS
  refine rightG_plain ?_ rfl
  rw [shapeG, shapeB, if_neg (by decide), if_neg (by decide), if_neg (by decide), if_neg (by decide), if_pos rfl, sameB_yes rfl, empty_name]; rfl
theorem while_right {t : Tm} {b : List St} {d : Nat} (ht : okT 6 t = true) (hb : rightGs d b = true) : rightG (d + 1) (.mk 3 ByteArray.empty t b []) = true := by
  have hs : shapeG (.mk 3 ByteArray.empty t b []) = true := by
    rw [shapeG, shapeB, if_neg (by decide), if_neg (by decide), if_pos rfl, empty_name, ht]; rfl
  rw [rightG_many hs rfl, Nat.add_sub_cancel, hb, rightGs, decide_eq_true (by omega)]; rfl
theorem if_right {t : Tm} {b e : List St} {d : Nat} (ht : okT 6 t = true) (hb : rightGs d b = true) (he : rightGs d e = true) : rightG (d + 1) (.mk 2 ByteArray.empty t b e) = true := by
  have hs : shapeG (.mk 2 ByteArray.empty t b e) = true := by
    rw [shapeG, shapeB, if_neg (by decide), if_pos rfl, empty_name, ht]; rfl
  rw [rightG_many hs rfl, Nat.add_sub_cancel, hb, he, decide_eq_true (by omega)]; rfl
theorem pick_name {ns : List ByteArray} (h : ∀ z ∈ ns, isNameL z.data.toList = true) (hl : ns.length = 3) (code : List UInt8) (k : Cur) : isNameL (pickS ns (belowD code 3 k).1).data.toList = true := by
  have hb := belowD_bd code (n := 3) (by decide) k
  exact pickS_in (fun z => isNameL z.data.toList = true) h (by omega)
theorem flatS_right (code : List UInt8) (x : Int) (k : Cur) (deep : Nat) : rightG deep (flatS code x k).1 = true := by
  unfold flatS setS wordS
  split
  · exact set_right (pick_name (by decide) rfl code k) (okT_le (by decide) (termD_ok code 2 _)) deep
  split
  · exact word_right (by omega) (pick_name (by decide) rfl code k) deep
  split
  · exact word_right (by omega) (pick_name (by decide) rfl code k) deep
  split
  · exact word_right (by omega) (pick_name (by decide) rfl code k) deep
  split
  · exact word_right (by omega) (pick_name (by decide) rfl code k) deep
  · exact skip_right deep
theorem stS_right (code : List UInt8) (d : Nat) : ∀ k, rightG d (stS code d k).1 = true := by
  induction d with
  | zero => intro k; rw [stS]; exact flatS_right _ _ _ _
  | succ d ih =>
    intro k
    have hl : ∀ k, rightGs d (lstS code (stS code d) k).1 = true := fun k => rightGs_all (lstS_all (P := fun g => rightG d g = true) ih k)
    rw [stS]
    split
    · exact flatS_right _ _ _ _
    split
    · exact while_right (okT_le (by decide) (termD_ok code 1 _)) (hl _)
    · unfold ifS
      split
      · exact if_right (okT_le (by decide) (termD_ok code 1 _)) (hl _) (hl _)
      · exact if_right (okT_le (by decide) (termD_ok code 1 _)) (hl _) (by rw [rightGs])
theorem lstS_right (code : List UInt8) (d : Nat) (k : Cur) : rightGs d (lstS code (stS code d) k).1 = true := rightGs_all (lstS_all (P := fun g => rightG d g = true) (stS_right code d) k)
theorem drawn_right (code : List UInt8) : rightGs 3 (drawnS code) = true := by
  unfold drawnS
  split
  · exact lstS_right code 3 _
  · rw [rightGs, rightGs, skip_right]; rfl
theorem drawn_many (code : List UInt8) : snodess (drawnS code) ≤ 60 := by
  unfold drawnS
  split
  · assumption
  · unfold skipS; simp [snodess, snodes]
/-- sizes -/
theorem okT_tot (r : Nat) : ∀ t, okT r t = true → totT t + 2 ≤ 14 * 2 ^ r := by
  have leaf : ∀ r k n s kids, (k = 1 ∨ k = 2) → okT r (.mk k n s kids) = true → totT (.mk k n s kids) ≤ 12 := by
    intro r k n s kids hk h
    rcases hk with rfl | rfl
    · rw [okT_num] at h
      simp only [Bool.and_eq_true, beq_iff_eq] at h
      have e : kids = [] := List.eq_nil_of_length_eq_zero (by omega)
      rw [e, empty_of h.1.2, totT, totTs]; decide
    · rw [okT_var] at h
      simp only [Bool.and_eq_true, beq_iff_eq] at h
      have e : kids = [] := List.eq_nil_of_length_eq_zero (by omega)
      have := name_len h.1.2
      rw [e, totT, totTs]
      have h2 : s.data.toList.length = s.size := rfl
      omega
  induction r with
  | zero =>
    intro t h
    obtain ⟨k, n, s, kids⟩ := t
    by_cases h12 : k = 1 ∨ k = 2
    · have := leaf 0 k n s kids h12 h; omega
    · rw [okT_zero (beq_eq_false_iff_ne.2 (by omega)) (beq_eq_false_iff_ne.2 (by omega))] at h; cases h
  | succ r ih =>
    intro t h
    obtain ⟨k, n, s, kids⟩ := t
    have hp : 2 ^ (r + 1) = 2 ^ r + 2 ^ r := by rw [Nat.pow_succ]; omega
    have hpos := Nat.two_pow_pos r
    by_cases h12 : k = 1 ∨ k = 2
    · have := leaf (r + 1) k n s kids h12 h; omega
    have hse : s = ByteArray.empty := by
      rw [okT_more (beq_eq_false_iff_ne.2 (by omega)) (beq_eq_false_iff_ne.2 (by omega))] at h
      simp only [Bool.and_eq_true] at h
      exact empty_of h.1.1.2
    have hs0 : s.size = 0 := by rw [hse]; rfl
    obtain ⟨r', he, ⟨_, x, rfl, hx⟩ | ⟨_, x, y, rfl, hx, hy⟩⟩ := okT_kids (by omega) (by omega) h
    · have : r' = r := by omega
      subst this
      have := ih x hx
      simp only [totT, totTs]; omega
    · have : r' = r := by omega
      subst this
      have := ih x hx
      have := ih y hy
      simp only [totT, totTs]; omega
theorem shape_tot {k : Int} {s : ByteArray} {t : Tm} {b e : List St} (h : shapeG (.mk k s t b e) = true) : s.size ≤ 12 ∧ totT t ≤ 894 := by
  have nm : ∀ {s : ByteArray}, isNameL s.data.toList = true → s.size ≤ 12 := fun {s} hn => by
    have := name_len hn
    have h2 : s.data.toList.length = s.size := rfl
    omega
  have em : ∀ {s : ByteArray}, s.toList.isEmpty = true → s.size ≤ 12 := fun {s} hn => by rw [empty_of hn]; decide
  have ok : ∀ {t : Tm}, okT 6 t = true → totT t ≤ 894 := fun {t} ht => by have := okT_tot 6 t ht; omega
  have zr : ∀ {t : Tm}, sameB t zeroTm = true → totT t ≤ 894 := fun {t} ht => by rw [sameB_true ht]; unfold zeroTm; rw [totT, totTs]; decide
  rw [shapeG, shapeB] at h
  split at h
  · simp only [Bool.and_eq_true] at h; exact ⟨nm h.1.1.1, ok h.1.1.2⟩
  split at h
  · simp only [Bool.and_eq_true] at h; exact ⟨em h.1, ok h.2⟩
  split at h
  · simp only [Bool.and_eq_true] at h; exact ⟨em h.1.1, ok h.1.2⟩
  split at h
  · simp only [Bool.and_eq_true] at h; exact ⟨nm h.1.1.1, zr h.1.1.2⟩
  split at h
  · simp only [Bool.and_eq_true] at h; exact ⟨em h.1.1.1, zr h.1.1.2⟩
  · cases h
theorem snodess_zero {l : List St} (h : snodess l = 0) : l = [] := by
  cases l with
  | nil => rfl
  | cons g r => obtain ⟨k, s, t, b, e⟩ := g; rw [snodess, snodes] at h; omega
theorem plain_kids {k : Int} {s : ByteArray} {t : Tm} {b e : List St} (h : shapeG (.mk k s t b e) = true) (hm : manyB k = false) : b = [] ∧ e = [] := by
  have := plain_one h hm
  rw [snodes] at this
  exact ⟨snodess_zero (by omega), snodess_zero (by omega)⟩
mutual
theorem right_tot : (g : St) → ∀ {d : Nat}, rightG d g = true → totG g + 1 ≤ 1000 * snodes g
  | .mk k s t b e, d, hr => by
    have hs := right_shape hr
    obtain ⟨h1, h2⟩ := shape_tot hs
    rw [totG, snodes]
    cases hm : manyB k with
    | false =>
      obtain ⟨rfl, rfl⟩ := plain_kids hs hm
      simp only [totGs, snodess]; omega
    | true =>
      rw [rightG_many hs hm] at hr
      simp only [Bool.and_eq_true] at hr
      have := rights_tot b hr.1.2
      have := rights_tot e hr.2
      omega
theorem rights_tot : (l : List St) → ∀ {d : Nat}, rightGs d l = true → totGs l ≤ 1000 * snodess l
  | [], _, _ => by simp [totGs, snodess]
  | g :: r, d, hr => by
    rw [rightGs, Bool.and_eq_true] at hr
    have := right_tot g hr.1
    have := rights_tot r hr.2
    rw [totGs, snodess]; omega
end
theorem drawn_tot (code : List UInt8) : totGs (drawnS code) ≤ 60000 := by
  have := rights_tot _ (drawn_right code)
  have := drawn_many code
  omega
end Go.Proofs.YtefcdpkficojgaaDoor
