/- Lemmas for the row. -/
import Derived.Test.YtnmblfonmfjoeaaGreatDoorKc7
import Derived.LaidEqlPtr
namespace Go.Proofs.YtnmblfonmfjoeaaGreatDoor
open Go.RowKit
set_option maxHeartbeats 2000000
set_option maxRecDepth 100000
set_option linter.unusedVariables false
def manyK (k : Int) : Int := if k = 8 then 1 else 2
theorem many8 {k : Int} (h : (k == 8) = true) : manyK k = 1 := by unfold manyK; rw [if_pos (by simpa using h)]
theorem many2 {k : Int} (h : (k == 8) = false) : manyK k = 2 := by unfold manyK; rw [if_neg (by simpa using h)]
def okT : Nat → Tm → Bool
 | room, .mk k n s kids =>
  if k = 1 then inB n 0 1000000000 && s.toList.isEmpty && ((kids.length : Int) == 0)
  else if k = 2 then (n == 0) && isNameL s.data.toList && ((kids.length : Int) == 0)
  else match room with
   | 0 => false
   | r + 1 => inB k 3 9 && (n == 0) && s.toList.isEmpty && ((kids.length : Int) == manyK k) && kids.all (okT r)
theorem okT_num (room : Nat) (n : Int) (s : ByteArray) (kids : List Tm) : okT room (.mk 1 n s kids) = (inB n 0 1000000000 && s.toList.isEmpty && ((kids.length : Int) == 0)) := by
 cases room <;> simp [okT]
theorem okT_var (room : Nat) (n : Int) (s : ByteArray) (kids : List Tm) : okT room (.mk 2 n s kids) = ((n == 0) && isNameL s.data.toList && ((kids.length : Int) == 0)) := by
 cases room <;> simp [okT]
theorem okT_zero {k : Int} (h1 : (k == 1) = false) (h2 : (k == 2) = false) (n : Int) (s : ByteArray) (kids : List Tm) : okT 0 (.mk k n s kids) = false := by
 simp only [beq_eq_false_iff_ne] at h1 h2
 simp [okT, h1, h2]
theorem okT_more {k : Int} (h1 : (k == 1) = false) (h2 : (k == 2) = false) (r : Nat) (n : Int) (s : ByteArray) (kids : List Tm) : okT (r + 1) (.mk k n s kids) = (inB k 3 9 && (n == 0) && s.toList.isEmpty && ((kids.length : Int) == manyK k) && kids.all (okT r)) := by
 simp only [beq_eq_false_iff_ne] at h1 h2
 rw [okT, if_neg h1, if_neg h2]
theorem okT_no {k n : Int} {s : ByteArray} {kids : List Tm} (h1 : (k == 1) = false) (h2 : (k == 2) = false) (h : inB k 3 9 = false ∨ (n == 0) = false ∨ s.toList.isEmpty = false ∨ ((kids.length : Int) == manyK k) = false) (room : Nat) : okT room (.mk k n s kids) = false := by
 cases room with
 | zero => exact okT_zero h1 h2 n s kids
 | succ r => rw [okT_more h1 h2]; rcases h with h | h | h | h <;> rw [h] <;> simp
theorem okT_all {k n : Int} {s : ByteArray} {kids : List Tm} (h1 : (k == 1) = false) (h2 : (k == 2) = false) (h3 : inB k 3 9 = true) (hn : (n == 0) = true) (hs : s.toList.isEmpty = true) (hl : ((kids.length : Int) == manyK k) = true) (r : Nat) : okT (r + 1) (.mk k n s kids) = kids.all (okT r) := by
 rw [okT_more h1 h2, h3, hn, hs, hl]; simp
theorem allT_no {kids : List Tm} {r j : Nat} (hj : j < kids.length) (h : okT r kids[j] = false) : kids.all (okT r) = false := by
 rw [List.all_eq_false]; exact ⟨kids[j], List.getElem_mem hj, by simp [h]⟩
theorem allT_succ {kids : List Tm} {r j : Nat} (hj : j < kids.length) (h : (kids.take j).all (okT r) = true) (e : okT r kids[j] = true) : (kids.take (j + 1)).all (okT r) = true := by
 have e1 : kids.take (j + 1) = kids.take j ++ [kids[j]] := List.take_succ_eq_append_getElem hj
 rw [e1, List.all_append, h]; simp [e]
theorem bne_of {n m : Int} {b : Bool} (h : (n == m) = b) : (n != m) = !b := by simp [bne, h]
theorem right_num (room : Nat) (n : Int) (s : ByteArray) (A : Option Addr) (c : Nat) (kids : List Tm) (w : World) :
  Calls Tryz.prog 94 #[.agg #[.int .i64 1, .int .i64 n, .string s, .slice A kids.length c], .int .i64 (room : Int)] w fun e w' => e = .returned (.bool (okT room (.mk 1 n s kids))) ∧ Below w.heap.size w w' := by
 rw [okT_num]
 cases h1 : inB n 0 1000000000 <;> cases h2 : s.toList.isEmpty <;> cases h3 : ((kids.length : Int) == 0)
 all_goals
  go_enter Tryz.func94, Tryz.ntmps94
  go_wp2_with (first | (go_at_call 35; refine (spec_l01In _ _ _ _).mono ?_; rintro e w' ⟨rfl, rfl⟩) | (go_at_call 81; refine (spec_IsName _ _).mono ?_; rintro e w' ⟨rfl, rfl⟩))
  go_ret
  exact ⟨rfl, zB⟩
theorem right_var (room : Nat) (n : Int) (s : ByteArray) (A : Option Addr) (c : Nat) (kids : List Tm) (w : World) :
  Calls Tryz.prog 94 #[.agg #[.int .i64 2, .int .i64 n, .string s, .slice A kids.length c], .int .i64 (room : Int)] w fun e w' => e = .returned (.bool (okT room (.mk 2 n s kids))) ∧ Below w.heap.size w w' := by
 rw [okT_var]
 cases h1 : (n == 0) <;> cases h2 : isNameL s.data.toList <;> cases h3 : ((kids.length : Int) == 0)
 all_goals
  go_enter Tryz.func94, Tryz.ntmps94
  go_wp2_with (first | (go_at_call 35; refine (spec_l01In _ _ _ _).mono ?_; rintro e w' ⟨rfl, rfl⟩) | (go_at_call 81; refine (spec_IsName _ _).mono ?_; rintro e w' ⟨rfl, rfl⟩))
  go_ret
  exact ⟨rfl, zB⟩
abbrev rightC (room : Nat) : Prop := ∀ (t : Tm) (k n : Int) (s : ByteArray) (A : Option Addr) (m c : Nat) (w : World), TmIs AnyB w [.int .i64 k, .int .i64 n, .string s, .slice A m c] t →
 Calls Tryz.prog 94 #[.agg #[.int .i64 k, .int .i64 n, .string s, .slice A m c], .int .i64 (room : Int)] w fun e w' => e = .returned (.bool (okT room t)) ∧ Below w.heap.size w w'
theorem right_no (room : Nat) (k n : Int) (s : ByteArray) (A : Option Addr) (c : Nat) (kids : List Tm) (w : World) (h1 : (k == 1) = false) (h2 : (k == 2) = false) (h : inB k 3 9 = false ∨ (n == 0) = false ∨ s.toList.isEmpty = false ∨ ((kids.length : Int) == manyK k) = false ∨ room = 0) :
  Calls Tryz.prog 94 #[.agg #[.int .i64 k, .int .i64 n, .string s, .slice A kids.length c], .int .i64 (room : Int)] w fun e w' => e = .returned (.bool false) ∧ Below w.heap.size w w' := by
 cases a1 : inB k 3 9
 ·clear h
  cases a8 : (k == 8)
  all_goals
   go_enter Tryz.func94, Tryz.ntmps94
   go_wp2_with (first | (go_at_call 35; refine (spec_l01In _ _ _ _).mono ?_; rintro e w' ⟨rfl, rfl⟩) | (go_at_call 81; refine (spec_IsName _ _).mono ?_; rintro e w' ⟨rfl, rfl⟩))
   go_ret
   exact ⟨rfl, zB⟩
 cases a2 : (n == 0)
 ·have a2' := bne_of a2
  clear h
  cases a8 : (k == 8)
  all_goals
   go_enter Tryz.func94, Tryz.ntmps94
   go_wp2_with (first | (go_at_call 35; refine (spec_l01In _ _ _ _).mono ?_; rintro e w' ⟨rfl, rfl⟩) | (go_at_call 81; refine (spec_IsName _ _).mono ?_; rintro e w' ⟨rfl, rfl⟩))
   go_ret
   exact ⟨rfl, zB⟩
 have a2' := bne_of a2
 cases a3 : s.toList.isEmpty
 ·clear h
  cases a8 : (k == 8)
  all_goals
   go_enter Tryz.func94, Tryz.ntmps94
   go_wp2_with (first | (go_at_call 35; refine (spec_l01In _ _ _ _).mono ?_; rintro e w' ⟨rfl, rfl⟩) | (go_at_call 81; refine (spec_IsName _ _).mono ?_; rintro e w' ⟨rfl, rfl⟩))
   go_ret
   exact ⟨rfl, zB⟩
 cases a4 : ((kids.length : Int) == manyK k)
 ·clear h
  cases a8 : (k == 8)
  ·rw [many2 a8] at a4
   have a4' := bne_of a4
   go_enter Tryz.func94, Tryz.ntmps94
   go_wp2_with (first | (go_at_call 35; refine (spec_l01In _ _ _ _).mono ?_; rintro e w' ⟨rfl, rfl⟩) | (go_at_call 81; refine (spec_IsName _ _).mono ?_; rintro e w' ⟨rfl, rfl⟩))
   go_ret
   exact ⟨rfl, zB⟩
  ·rw [many8 a8] at a4
   have a4' := bne_of a4
   go_enter Tryz.func94, Tryz.ntmps94
   go_wp2_with (first | (go_at_call 35; refine (spec_l01In _ _ _ _).mono ?_; rintro e w' ⟨rfl, rfl⟩) | (go_at_call 81; refine (spec_IsName _ _).mono ?_; rintro e w' ⟨rfl, rfl⟩))
   go_ret
   exact ⟨rfl, zB⟩
 obtain rfl : room = 0 := by simpa [a1, a2, a3, a4] using h
 clear h
 cases a8 : (k == 8)
 ·rw [many2 a8] at a4
  have a4' := bne_of a4
  go_enter Tryz.func94, Tryz.ntmps94
  go_wp2_with (first | (go_at_call 35; refine (spec_l01In _ _ _ _).mono ?_; rintro e w' ⟨rfl, rfl⟩) | (go_at_call 81; refine (spec_IsName _ _).mono ?_; rintro e w' ⟨rfl, rfl⟩))
  go_ret
  exact ⟨rfl, zB⟩
 ·rw [many8 a8] at a4
  have a4' := bne_of a4
  go_enter Tryz.func94, Tryz.ntmps94
  go_wp2_with (first | (go_at_call 35; refine (spec_l01In _ _ _ _).mono ?_; rintro e w' ⟨rfl, rfl⟩) | (go_at_call 81; refine (spec_IsName _ _).mono ?_; rintro e w' ⟨rfl, rfl⟩))
  go_ret
  exact ⟨rfl, zB⟩
theorem right_loop (room : Nat) (ih : rightC room) (hr : room ≤ 100) (k n : Int) (s : ByteArray) (A : Option Addr) (c : Nat) (kids : List Tm) (w : World) (row : TmRow AnyB w A kids) (hl : kids.length ≤ c) (hc : c ≤ maxLen) (h1 : (k == 1) = false) (h2 : (k == 2) = false) (a1 : inB k 3 9 = true) (a2 : (n == 0) = true) (a3 : s.toList.isEmpty = true) (a4 : ((kids.length : Int) == manyK k) = true) :
  Calls Tryz.prog 94 #[.agg #[.int .i64 k, .int .i64 n, .string s, .slice A kids.length c], .int .i64 ((room : Int) + 1)] w fun e w' => e = .returned (.bool (okT (room + 1) (.mk k n s kids))) ∧ Below w.heap.size w w' := by
 unfold maxLen at hc
 have FA := qh (okT_all h1 h2 a1 a2 a3 a4 room)
 have IH := qh ih
 have RW := qh row
 have a2' := bne_of a2
 have hz : (((room : Int) + 1) == 0) = false := beq_eq_false_iff_ne.2 (by omega)
 clear ih row
 cases a8 : (k == 8)
 ·rw [many2 a8] at a4
  have a4' := bne_of a4
  (
   go_enter Tryz.func94, Tryz.ntmps94
   go_wp2_with (first | (go_at_call 35; refine (spec_l01In _ _ _ _).mono ?_; rintro e w' ⟨rfl, rfl⟩) | (go_at_call 81; refine (spec_IsName _ _).mono ?_; rintro e w' ⟨rfl, rfl⟩))
   go_loopw [6] (fun i wr => ∃ j : Nat, j ≤ kids.length ∧ i = .int .i64 j ∧ Below w.heap.size w wr ∧ w.heap.size < wr.heap.size ∧ wr.cell? ⟨w.heap.size, 3, none⟩ = some (.slice A kids.length c) ∧ Hid ((kids.take j).all (okT room) = true)) (fun i _ => kids.length - (intOf i).toNat)
   case atStart => exact ⟨0, Nat.zero_le _, rfl, zB, by simp, by simp, qh rfl⟩
   case round =>
    obtain ⟨j, hj, rfl, hb, hsz, x3, HA⟩ := hrel
    have HB := qh hb
    clear hb
    by_cases hlt : j < kids.length
    ·obtain ⟨b, off, k1, n1, s1, A1, m1, c1, rfl, _, d0, d1, d2, d3, ht⟩ := rd_term (RW.out.belowA HB.out) hlt
     have T1 := qh ht
     clear ht
     have h0k : (0 : Int) ≤ (j : Int) := by omega
     have hr1 : (room : Int) + 1 - 1 = (room : Int) := by omega
     go_wp2_with fail
     refine (IH.out kids[j] k1 n1 s1 A1 m1 c1 _ ?_).mono ?_
     ·exact T1.out.belowA zB
     rintro e w1 ⟨rfl, b1⟩
     have B1 : Below wr.heap.size wr w1 := Below.trans zB (b1.mono (by simp))
     have H1 := qh (HB.out.trans (B1.mono HB.out.size))
     have x3' := cell_keep B1 x3
     have hs1 := B1.size
     clear b1 B1
     cases e : okT room kids[j]
     ·have F := qh (allT_no hlt e)
      go_wp2_with fail
      go_ret
      exact ⟨ret_bool (F.out.symm.trans FA.out.symm), H1.out⟩
     ·go_wp2_with fail
      go_roundw
      case rel => exact ⟨j + 1, by omega, by go_num, H1.out, by omega, x3', qh (allT_succ hlt HA.out e)⟩
      case measure => simp [intOf]; omega
    ·go_wp2_with fail
     go_ret
     have := HA.out
     rw [List.take_of_length_le (by omega)] at this
     exact ⟨ret_bool (by rw [FA.out, this]), HB.out⟩)
 ·rw [many8 a8] at a4
  have a4' := bne_of a4
  (
   go_enter Tryz.func94, Tryz.ntmps94
   go_wp2_with (first | (go_at_call 35; refine (spec_l01In _ _ _ _).mono ?_; rintro e w' ⟨rfl, rfl⟩) | (go_at_call 81; refine (spec_IsName _ _).mono ?_; rintro e w' ⟨rfl, rfl⟩))
   go_loopw [6] (fun i wr => ∃ j : Nat, j ≤ kids.length ∧ i = .int .i64 j ∧ Below w.heap.size w wr ∧ w.heap.size < wr.heap.size ∧ wr.cell? ⟨w.heap.size, 3, none⟩ = some (.slice A kids.length c) ∧ Hid ((kids.take j).all (okT room) = true)) (fun i _ => kids.length - (intOf i).toNat)
   case atStart => exact ⟨0, Nat.zero_le _, rfl, zB, by simp, by simp, qh rfl⟩
   case round =>
    obtain ⟨j, hj, rfl, hb, hsz, x3, HA⟩ := hrel
    have HB := qh hb
    clear hb
    by_cases hlt : j < kids.length
    ·obtain ⟨b, off, k1, n1, s1, A1, m1, c1, rfl, _, d0, d1, d2, d3, ht⟩ := rd_term (RW.out.belowA HB.out) hlt
     have T1 := qh ht
     clear ht
     have h0k : (0 : Int) ≤ (j : Int) := by omega
     have hr1 : (room : Int) + 1 - 1 = (room : Int) := by omega
     go_wp2_with fail
     refine (IH.out kids[j] k1 n1 s1 A1 m1 c1 _ ?_).mono ?_
     ·exact T1.out.belowA zB
     rintro e w1 ⟨rfl, b1⟩
     have B1 : Below wr.heap.size wr w1 := Below.trans zB (b1.mono (by simp))
     have H1 := qh (HB.out.trans (B1.mono HB.out.size))
     have x3' := cell_keep B1 x3
     have hs1 := B1.size
     clear b1 B1
     cases e : okT room kids[j]
     ·have F := qh (allT_no hlt e)
      go_wp2_with fail
      go_ret
      exact ⟨ret_bool (F.out.symm.trans FA.out.symm), H1.out⟩
     ·go_wp2_with fail
      go_roundw
      case rel => exact ⟨j + 1, by omega, by go_num, H1.out, by omega, x3', qh (allT_succ hlt HA.out e)⟩
      case measure => simp [intOf]; omega
    ·go_wp2_with fail
     go_ret
     have := HA.out
     rw [List.take_of_length_le (by omega)] at this
     exact ⟨ret_bool (by rw [FA.out, this]), HB.out⟩)
theorem right_at (room : Nat) (hr : room ≤ 100) : rightC room := by
 induction room with
 | zero =>
  intro t k n s A m c w ht
  obtain ⟨kids, rfl, rfl, hl, hc, _, _, _, row⟩ := ht.inv
  by_cases g1 : k = 1
  ·subst g1; exact right_num 0 n s A c kids w
  by_cases g2 : k = 2
  ·subst g2; exact right_var 0 n s A c kids w
  have h1 : (k == 1) = false := beq_eq_false_iff_ne.2 g1
  have h2 : (k == 2) = false := beq_eq_false_iff_ne.2 g2
  rw [okT_zero h1 h2]
  exact right_no 0 k n s A c kids w h1 h2 (.inr (.inr (.inr (.inr rfl))))
 | succ room ih =>
  intro t k n s A m c w ht
  obtain ⟨kids, rfl, rfl, hl, hc, _, _, _, row⟩ := ht.inv
  by_cases g1 : k = 1
  ·subst g1; exact right_num (room + 1) n s A c kids w
  by_cases g2 : k = 2
  ·subst g2; exact right_var (room + 1) n s A c kids w
  have h1 : (k == 1) = false := beq_eq_false_iff_ne.2 g1
  have h2 : (k == 2) = false := beq_eq_false_iff_ne.2 g2
  cases a1 : inB k 3 9
  ·rw [okT_no h1 h2 (.inl a1)]; exact right_no _ k n s A c kids w h1 h2 (.inl a1)
  cases a2 : (n == 0)
  ·rw [okT_no h1 h2 (.inr (.inl a2))]; exact right_no _ k n s A c kids w h1 h2 (.inr (.inl a2))
  cases a3 : s.toList.isEmpty
  ·rw [okT_no h1 h2 (.inr (.inr (.inl a3)))]; exact right_no _ k n s A c kids w h1 h2 (.inr (.inr (.inl a3)))
  cases a4 : ((kids.length : Int) == manyK k)
  ·rw [okT_no h1 h2 (.inr (.inr (.inr a4)))]; exact right_no _ k n s A c kids w h1 h2 (.inr (.inr (.inr (.inl a4))))
  exact right_loop room (ih (by omega)) (by omega) k n s A c kids w row hl hc h1 h2 a1 a2 a3 a4
theorem fits_num (room : Nat) (n : Int) (s : ByteArray) (A : Option Addr) (c : Nat) (kids : List Tm) (w : World) :
  Calls Tryz.prog 85 #[.agg #[.int .i64 1, .int .i64 n, .string s, .slice A kids.length c], .int .i64 (room : Int)] w fun e w' => e = .returned (.bool (okT room (.mk 1 n s kids))) ∧ Below w.heap.size w w' := by
 rw [okT_num]
 by_cases g1 : 0 ≤ n
 ·by_cases g2 : n ≤ 1000000000
  ·rw [inB_yes g1 g2]
   cases h2 : s.toList.isEmpty <;> cases h3 : ((kids.length : Int) == 0)
   all_goals
    go_enter Tryz.func85, Tryz.ntmps85
    go_wp2_with fail
    go_ret
    exact ⟨rfl, zB⟩
  ·rw [inB_no (.inr (by omega))]
   have g2' := decide_no g2
   go_enter Tryz.func85, Tryz.ntmps85
   go_wp2_with fail
   go_ret
   exact ⟨rfl, zB⟩
 ·rw [inB_no (.inl (by omega))]
  have g1' := decide_no g1
  go_enter Tryz.func85, Tryz.ntmps85
  go_wp2_with fail
  go_ret
  exact ⟨rfl, zB⟩
theorem fits_var (room : Nat) (n : Int) (s : ByteArray) (A : Option Addr) (c : Nat) (kids : List Tm) (w : World) :
  Calls Tryz.prog 85 #[.agg #[.int .i64 2, .int .i64 n, .string s, .slice A kids.length c], .int .i64 (room : Int)] w fun e w' => e = .returned (.bool (okT room (.mk 2 n s kids))) ∧ Below w.heap.size w w' := by
 rw [okT_var]
 cases h1 : (n == 0) <;> cases h2 : isNameL s.data.toList <;> cases h3 : ((kids.length : Int) == 0)
 all_goals
  go_enter Tryz.func85, Tryz.ntmps85
  go_wp2_with (first | (go_at_call 73; refine (impl_IsName _ _).mono ?_; rintro e w' ⟨rfl, rfl⟩))
  go_ret
  exact ⟨rfl, zB⟩
abbrev fitsC (room : Nat) : Prop := ∀ (t : Tm) (k n : Int) (s : ByteArray) (A : Option Addr) (m c : Nat) (w : World), TmIs AnyB w [.int .i64 k, .int .i64 n, .string s, .slice A m c] t →
 Calls Tryz.prog 85 #[.agg #[.int .i64 k, .int .i64 n, .string s, .slice A m c], .int .i64 (room : Int)] w fun e w' => e = .returned (.bool (okT room t)) ∧ Below w.heap.size w w'
theorem fits_no (room : Nat) (k n : Int) (s : ByteArray) (A : Option Addr) (c : Nat) (kids : List Tm) (w : World) (h1 : (k == 1) = false) (h2 : (k == 2) = false) (h : inB k 3 9 = false ∨ (n == 0) = false ∨ s.toList.isEmpty = false ∨ ((kids.length : Int) == manyK k) = false ∨ room = 0) :
  Calls Tryz.prog 85 #[.agg #[.int .i64 k, .int .i64 n, .string s, .slice A kids.length c], .int .i64 (room : Int)] w fun e w' => e = .returned (.bool false) ∧ Below w.heap.size w w' := by
 cases a1 : inB k 3 9
 ·clear h
  have b3 : (k == 3) = false := beq_eq_false_iff_ne.2 (by rintro rfl; simp [inB] at a1)
  have b4 : (k == 4) = false := beq_eq_false_iff_ne.2 (by rintro rfl; simp [inB] at a1)
  have b5 : (k == 5) = false := beq_eq_false_iff_ne.2 (by rintro rfl; simp [inB] at a1)
  have b6 : (k == 6) = false := beq_eq_false_iff_ne.2 (by rintro rfl; simp [inB] at a1)
  have b7 : (k == 7) = false := beq_eq_false_iff_ne.2 (by rintro rfl; simp [inB] at a1)
  have b8 : (k == 8) = false := beq_eq_false_iff_ne.2 (by rintro rfl; simp [inB] at a1)
  have b9 : (k == 9) = false := beq_eq_false_iff_ne.2 (by rintro rfl; simp [inB] at a1)
  go_enter Tryz.func85, Tryz.ntmps85
  go_wp2_with (first | (go_at_call 73; refine (impl_IsName _ _).mono ?_; rintro e w' ⟨rfl, rfl⟩))
  go_ret
  exact ⟨rfl, zB⟩
 have hk : k = 3 ∨ k = 4 ∨ k = 5 ∨ k = 6 ∨ k = 7 ∨ k = 8 ∨ k = 9 := by have := inB_le a1; omega
 clear h1 h2
 cases a4 : ((kids.length : Int) == manyK k)
 ·clear h a1
  have a4' := bne_of a4
  rcases hk with rfl | rfl | rfl | rfl | rfl | rfl | rfl
  all_goals
   simp only [manyK, Int.reduceEq, if_true, if_false] at a4 a4'
   go_enter Tryz.func85, Tryz.ntmps85
   go_wp2_with (first | (go_at_call 73; refine (impl_IsName _ _).mono ?_; rintro e w' ⟨rfl, rfl⟩))
   go_ret
   exact ⟨rfl, zB⟩
 have a4' := bne_of a4
 cases a2 : (n == 0)
 ·clear h a1
  have a2' := bne_of a2
  rcases hk with rfl | rfl | rfl | rfl | rfl | rfl | rfl
  all_goals
   simp only [manyK, Int.reduceEq, if_true, if_false] at a4 a4'
   go_enter Tryz.func85, Tryz.ntmps85
   go_wp2_with (first | (go_at_call 73; refine (impl_IsName _ _).mono ?_; rintro e w' ⟨rfl, rfl⟩))
   go_ret
   exact ⟨rfl, zB⟩
 have a2' := bne_of a2
 cases a3 : s.toList.isEmpty
 ·clear h a1
  rcases hk with rfl | rfl | rfl | rfl | rfl | rfl | rfl
  all_goals
   simp only [manyK, Int.reduceEq, if_true, if_false] at a4 a4'
   go_enter Tryz.func85, Tryz.ntmps85
   go_wp2_with (first | (go_at_call 73; refine (impl_IsName _ _).mono ?_; rintro e w' ⟨rfl, rfl⟩))
   go_ret
   exact ⟨rfl, zB⟩
 obtain rfl : room = 0 := by simpa [a1, a2, a3, a4] using h
 clear h a1
 rcases hk with rfl | rfl | rfl | rfl | rfl | rfl | rfl
 all_goals
  simp only [manyK, Int.reduceEq, if_true, if_false] at a4 a4'
  go_enter Tryz.func85, Tryz.ntmps85
  go_wp2_with (first | (go_at_call 73; refine (impl_IsName _ _).mono ?_; rintro e w' ⟨rfl, rfl⟩))
  go_ret
  exact ⟨rfl, zB⟩
theorem fits_loop (room : Nat) (ih : fitsC room) (hr : room ≤ 100) (k n : Int) (s : ByteArray) (A : Option Addr) (c : Nat) (kids : List Tm) (w : World) (row : TmRow AnyB w A kids) (hl : kids.length ≤ c) (hc : c ≤ maxLen) (h1 : (k == 1) = false) (h2 : (k == 2) = false) (a1 : inB k 3 9 = true) (a2 : (n == 0) = true) (a3 : s.toList.isEmpty = true) (a4 : ((kids.length : Int) == manyK k) = true) :
  Calls Tryz.prog 85 #[.agg #[.int .i64 k, .int .i64 n, .string s, .slice A kids.length c], .int .i64 ((room : Int) + 1)] w fun e w' => e = .returned (.bool (okT (room + 1) (.mk k n s kids))) ∧ Below w.heap.size w w' := by
 unfold maxLen at hc
 have FA := qh (okT_all h1 h2 a1 a2 a3 a4 room)
 have IH := qh ih
 have RW := qh row
 have a2' := bne_of a2
 have hz : (((room : Int) + 1) == 0) = false := beq_eq_false_iff_ne.2 (by omega)
 clear ih row
 have hk : k = 3 ∨ k = 4 ∨ k = 5 ∨ k = 6 ∨ k = 7 ∨ k = 8 ∨ k = 9 := by have := inB_le a1; omega
 clear h1 h2 a1
 rcases hk with rfl | rfl | rfl | rfl | rfl | rfl | rfl
 all_goals
  have a4' := bne_of a4
  simp only [manyK, Int.reduceEq, if_true, if_false] at a4 a4'
  (
   go_enter Tryz.func85, Tryz.ntmps85
   go_wp2_with (first | (go_at_call 73; refine (impl_IsName _ _).mono ?_; rintro e w' ⟨rfl, rfl⟩))
   go_loopw [78] (fun i wr => ∃ j : Nat, j ≤ kids.length ∧ i = .int .i64 j ∧ Below w.heap.size w wr ∧ w.heap.size < wr.heap.size ∧ wr.cell? ⟨w.heap.size, 3, none⟩ = some (.slice A kids.length c) ∧ Hid ((kids.take j).all (okT room) = true)) (fun i _ => kids.length - (intOf i).toNat)
   case atStart => exact ⟨0, Nat.zero_le _, rfl, zB, by simp, by simp, qh rfl⟩
   case round =>
    obtain ⟨j, hj, rfl, hb, hsz, x3, HA⟩ := hrel
    have HB := qh hb
    clear hb
    by_cases hlt : j < kids.length
    ·obtain ⟨b, off, k1, n1, s1, A1, m1, c1, rfl, _, d0, d1, d2, d3, ht⟩ := rd_term (RW.out.belowA HB.out) hlt
     have T1 := qh ht
     clear ht
     have h0k : (0 : Int) ≤ (j : Int) := by omega
     have hr1 : (room : Int) + 1 - 1 = (room : Int) := by omega
     go_wp2_with fail
     refine (IH.out kids[j] k1 n1 s1 A1 m1 c1 _ ?_).mono ?_
     ·exact T1.out.belowA zB
     rintro e w1 ⟨rfl, b1⟩
     have B1 : Below wr.heap.size wr w1 := Below.trans zB (b1.mono (by simp))
     have H1 := qh (HB.out.trans (B1.mono HB.out.size))
     have x3' := cell_keep B1 x3
     have hs1 := B1.size
     clear b1 B1
     cases e : okT room kids[j]
     ·have F := qh (allT_no hlt e)
      go_wp2_with fail
      go_ret
      exact ⟨ret_bool (F.out.symm.trans FA.out.symm), H1.out⟩
     ·go_wp2_with fail
      go_roundw
      case rel => exact ⟨j + 1, by omega, by go_num, H1.out, by omega, x3', qh (allT_succ hlt HA.out e)⟩
      case measure => simp [intOf]; omega
    ·go_wp2_with fail
     go_ret
     have := HA.out
     rw [List.take_of_length_le (by omega)] at this
     exact ⟨ret_bool (by rw [FA.out, this]), HB.out⟩)
theorem fits_at (room : Nat) (hr : room ≤ 100) : fitsC room := by
 induction room with
 | zero =>
  intro t k n s A m c w ht
  obtain ⟨kids, rfl, rfl, hl, hc, _, _, _, row⟩ := ht.inv
  by_cases g1 : k = 1
  ·subst g1; exact fits_num 0 n s A c kids w
  by_cases g2 : k = 2
  ·subst g2; exact fits_var 0 n s A c kids w
  have h1 : (k == 1) = false := beq_eq_false_iff_ne.2 g1
  have h2 : (k == 2) = false := beq_eq_false_iff_ne.2 g2
  rw [okT_zero h1 h2]
  exact fits_no 0 k n s A c kids w h1 h2 (.inr (.inr (.inr (.inr rfl))))
 | succ room ih =>
  intro t k n s A m c w ht
  obtain ⟨kids, rfl, rfl, hl, hc, _, _, _, row⟩ := ht.inv
  by_cases g1 : k = 1
  ·subst g1; exact fits_num (room + 1) n s A c kids w
  by_cases g2 : k = 2
  ·subst g2; exact fits_var (room + 1) n s A c kids w
  have h1 : (k == 1) = false := beq_eq_false_iff_ne.2 g1
  have h2 : (k == 2) = false := beq_eq_false_iff_ne.2 g2
  cases a1 : inB k 3 9
  ·rw [okT_no h1 h2 (.inl a1)]; exact fits_no _ k n s A c kids w h1 h2 (.inl a1)
  cases a2 : (n == 0)
  ·rw [okT_no h1 h2 (.inr (.inl a2))]; exact fits_no _ k n s A c kids w h1 h2 (.inr (.inl a2))
  cases a3 : s.toList.isEmpty
  ·rw [okT_no h1 h2 (.inr (.inr (.inl a3)))]; exact fits_no _ k n s A c kids w h1 h2 (.inr (.inr (.inl a3)))
  cases a4 : ((kids.length : Int) == manyK k)
  ·rw [okT_no h1 h2 (.inr (.inr (.inr a4)))]; exact fits_no _ k n s A c kids w h1 h2 (.inr (.inr (.inr (.inl a4))))
  exact fits_loop room (ih (by omega)) (by omega) k n s A c kids w row hl hc h1 h2 a1 a2 a3 a4
theorem spec_TermOk (t : Tm) (k n : Int) (s : ByteArray) (A : Option Addr) (m c : Nat) (w : World) (ht : TmIs AnyB w [.int .i64 k, .int .i64 n, .string s, .slice A m c] t) :
  Calls Tryz.prog 68 #[.agg #[.int .i64 k, .int .i64 n, .string s, .slice A m c]] w fun e w' => e = .returned (.bool (okT 6 t)) ∧ Below w.heap.size w w' := by
 have HT := qh ht
 clear ht
 go_enter Tryz.func68, Tryz.ntmps68
 go_wp2_with fail
 refine (right_at 6 (by omega) t k n s A m c _ (HT.out.belowA zB)).mono ?_
 rintro e w1 ⟨rfl, b1⟩
 have B1 : Below w.heap.size w w1 := Below.trans zB (b1.mono (by simp))
 have H1 := qh B1
 clear b1 B1
 go_wp2_with fail
 go_ret
 exact ⟨rfl, H1.out⟩
theorem impl_TermOk (t : Tm) (k n : Int) (s : ByteArray) (A : Option Addr) (m c : Nat) (w : World) (ht : TmIs AnyB w [.int .i64 k, .int .i64 n, .string s, .slice A m c] t) :
  Calls Tryz.prog 59 #[.agg #[.int .i64 k, .int .i64 n, .string s, .slice A m c]] w fun e w' => e = .returned (.bool (okT 6 t)) ∧ Below w.heap.size w w' := by
 have HT := qh ht
 clear ht
 go_enter Tryz.func59, Tryz.ntmps59
 go_wp2_with fail
 refine (fits_at 6 (by omega) t k n s A m c _ (HT.out.belowA zB)).mono ?_
 rintro e w1 ⟨rfl, b1⟩
 have B1 : Below w.heap.size w w1 := Below.trans zB (b1.mono (by simp))
 have H1 := qh B1
 clear b1 B1
 go_wp2_with fail
 go_ret
 exact ⟨rfl, H1.out⟩
abbrev SpC (t : Tm) : Prop := ∀ (u : Tm) (k n : Int) (s : ByteArray) (A : Option Addr) (m c : Nat) (k' n' : Int) (s' : ByteArray) (A' : Option Addr) (m' c' : Nat) (w : World), TmIs AnyB w [.int .i64 k, .int .i64 n, .string s, .slice A m c] t → TmIs AnyB w [.int .i64 k', .int .i64 n', .string s', .slice A' m' c'] u →
 Calls Tryz.prog 93 #[.agg #[.int .i64 k, .int .i64 n, .string s, .slice A m c], .agg #[.int .i64 k', .int .i64 n', .string s', .slice A' m' c']] w fun e w' => e = .returned (.bool (sameB t u)) ∧ Below w.heap.size w w'
theorem spec_SameTerm (t : Tm) : SpC t := by
 induction hN : nodes t using Nat.strongRecOn generalizing t with
 | ind N ih =>
  intro u k n s A m c k' n' s' A' m' c' w ht hu
  obtain ⟨ss, rfl, rfl, hl, hc, _, _, _, row⟩ := ht.inv
  obtain ⟨tt, rfl, rfl, hl', hc', _, _, _, row'⟩ := hu.inv
  have IH : Hid (∀ x ∈ ss, SpC x) := qh fun x hx => ih (nodes x) (by rw [← hN]; exact kid_lt hx) x rfl
  have RW := qh row
  have RW' := qh row'
  unfold maxLen at hc hc'
  clear ih hN ht hu row row'
  have q := str_eq s s'
  by_cases c1 : k = k'
  ·by_cases c2 : n = n'
   ·by_cases c3 : s = s'
    ·have q1 : (k != k') = false := by simp [c1]
     have q2 : (n != n') = false := by simp [c2]
     rw [decide_eq_true c3] at q
     have C := qh (And.intro c1 (And.intro c2 c3))
     clear c1 c2 c3
     by_cases g0 : ss.length = tt.length
     ·have g1 : ((ss.length : Int) != (tt.length : Int)) = false := by simp [g0]
      have G := qh g0
      clear g0
      go_enter Tryz.func93, Tryz.ntmps93
      go_wp2_with fail
      go_loopw [5] (fun i wr => ∃ j : Nat, j ≤ ss.length ∧ i = .int .i64 j ∧ Below w.heap.size w wr ∧ w.heap.size + 2 ≤ wr.heap.size ∧ wr.cell? ⟨w.heap.size, 3, none⟩ = some (.slice A ss.length c) ∧ wr.cell? ⟨w.heap.size + 1, 3, none⟩ = some (.slice A' tt.length c') ∧ Hid (ss.take j = tt.take j)) (fun i _ => ss.length - (intOf i).toNat)
      case atStart => exact ⟨0, Nat.zero_le _, rfl, zB, by simp, by simp, by simp, qh rfl⟩
      case round =>
       obtain ⟨j, hj, rfl, hb, hsz, x3, y3, HT⟩ := hrel
       have HB := qh hb
       clear hb
       by_cases hlt : j < ss.length
       ·have hlt' : j < tt.length := by rw [← G.out]; exact hlt
        obtain ⟨b, off, k1, n1, s1, A1, m1, c1, rfl, _, d0, d1, d2, d3, ht⟩ := rd_term (RW.out.belowA HB.out) hlt
        obtain ⟨b', off', k2, n2, s2, A2, m2, c2, rfl, _, e0, e1, e2, e3, ht'⟩ := rd_term (RW'.out.belowA HB.out) hlt'
        have T1 := qh ht
        have T2 := qh ht'
        clear ht ht'
        have h0k : (0 : Int) ≤ (j : Int) := by omega
        have h1k : (j : Int) < (ss.length : Int) := by omega
        have h2k : (j : Int) < (tt.length : Int) := by omega
        by_cases e : sameB ss[j] tt[j] = true
        ·go_wp2_with fail
         go_region_held3 (fun w' => w'.cell? ⟨w.heap.size, 3, none⟩ = some (.slice (some ⟨b, off, none⟩) ss.length c) ∧ w'.cell? ⟨w.heap.size + 1, 3, none⟩ = some (.slice (some ⟨b', off', none⟩) tt.length c') ∧ w'.cell? ⟨b, off + j * 4, none⟩ = some (.int .i64 k1) ∧ w'.cell? ⟨b, off + j * 4 + 1, none⟩ = some (.int .i64 n1) ∧ w'.cell? ⟨b, off + j * 4 + 2, none⟩ = some (.string s1) ∧ w'.cell? ⟨b, off + j * 4 + 3, none⟩ = some (.slice A1 m1 c1) ∧ w'.cell? ⟨b', off' + j * 4, none⟩ = some (.int .i64 k2) ∧ w'.cell? ⟨b', off' + j * 4 + 1, none⟩ = some (.int .i64 n2) ∧ w'.cell? ⟨b', off' + j * 4 + 2, none⟩ = some (.string s2) ∧ w'.cell? ⟨b', off' + j * 4 + 3, none⟩ = some (.slice A2 m2 c2))
          (first | go_keep | exact ⟨cell_keep b1 x3, cell_keep b1 y3, cell_keep b1 d0, cell_keep b1 d1, cell_keep b1 d2, cell_keep b1 d3, cell_keep b1 e0, cell_keep b1 e1, cell_keep b1 e2, cell_keep b1 e3⟩)
          (first | (go_at_call 93; refine (IH.out _ (List.getElem_mem hlt) tt[j] k1 n1 s1 A1 m1 c1 k2 n2 s2 A2 m2 c2 _ (by exact T1.out.drew) (by exact T2.out.drew)).mono ?_; rintro e w1 ⟨rfl, b1⟩))
         all_goals
          go_wp2_with fail
          go_roundw
          case rel => exact ⟨j + 1, by omega, by go_num, HB.out.drew.trans (b1.mono HB.out.size), Nat.le_trans hsz b1.size, cell_keep b1 x3, cell_keep b1 y3, qh (take_eq_succ HT.out hlt hlt' (sameB_true e))⟩
          case measure => simp [intOf]; omega
        ·have e' := bool_no e
         go_wp2_with fail
         go_region_held3 (fun w' => w'.cell? ⟨w.heap.size, 3, none⟩ = some (.slice (some ⟨b, off, none⟩) ss.length c) ∧ w'.cell? ⟨w.heap.size + 1, 3, none⟩ = some (.slice (some ⟨b', off', none⟩) tt.length c') ∧ w'.cell? ⟨b, off + j * 4, none⟩ = some (.int .i64 k1) ∧ w'.cell? ⟨b, off + j * 4 + 1, none⟩ = some (.int .i64 n1) ∧ w'.cell? ⟨b, off + j * 4 + 2, none⟩ = some (.string s1) ∧ w'.cell? ⟨b, off + j * 4 + 3, none⟩ = some (.slice A1 m1 c1) ∧ w'.cell? ⟨b', off' + j * 4, none⟩ = some (.int .i64 k2) ∧ w'.cell? ⟨b', off' + j * 4 + 1, none⟩ = some (.int .i64 n2) ∧ w'.cell? ⟨b', off' + j * 4 + 2, none⟩ = some (.string s2) ∧ w'.cell? ⟨b', off' + j * 4 + 3, none⟩ = some (.slice A2 m2 c2))
          (first | go_keep | exact ⟨cell_keep b1 x3, cell_keep b1 y3, cell_keep b1 d0, cell_keep b1 d1, cell_keep b1 d2, cell_keep b1 d3, cell_keep b1 e0, cell_keep b1 e1, cell_keep b1 e2, cell_keep b1 e3⟩)
          (first | (go_at_call 93; refine (IH.out _ (List.getElem_mem hlt) tt[j] k1 n1 s1 A1 m1 c1 k2 n2 s2 A2 m2 c2 _ (by exact T1.out.drew) (by exact T2.out.drew)).mono ?_; rintro e w1 ⟨rfl, b1⟩))
         all_goals
          go_wp2_with fail
          go_ret
          exact ⟨ret_bool (sameB_no (fun e => sameB_false e' (by injection e with _ _ _ e; subst e; rfl))).symm, HB.out.drew.trans (b1.mono HB.out.size)⟩
       ·go_wp2_with fail
        go_ret
        have e : ss = tt := by
         have := HT.out
         rwa [List.take_of_length_le (by omega), List.take_of_length_le (by rw [← G.out]; omega)] at this
        obtain ⟨z1, z2, z3⟩ := C.out
        exact ⟨ret_bool (sameB_yes (by rw [z1, z2, z3, e])).symm, HB.out⟩
     ·have g1 : ((ss.length : Int) != (tt.length : Int)) = true := by simp; omega
      have G := qh g0
      clear g0
      go_enter Tryz.func93, Tryz.ntmps93
      go_wp2_with fail
      go_ret
      exact ⟨ret_bool (sameB_no (fun e => G.out (by injection e with _ _ _ e; rw [e]))).symm, zB⟩
    ·have q1 : (k != k') = false := by simp [c1]
     have q2 : (n != n') = false := by simp [c2]
     rw [decide_no c3] at q
     have C := qh c3
     clear c1 c2 c3
     go_enter Tryz.func93, Tryz.ntmps93
     go_wp2_with fail
     go_ret
     exact ⟨ret_bool (sameB_no (fun e => C.out (by injection e))).symm, zB⟩
   ·have q1 : (k != k') = false := by simp [c1]
    have q2 : (n != n') = true := by simpa using c2
    have C := qh c2
    clear c1 c2
    go_enter Tryz.func93, Tryz.ntmps93
    go_wp2_with fail
    go_ret
    exact ⟨ret_bool (sameB_no (fun e => C.out (by injection e))).symm, zB⟩
  ·have q1 : (k != k') = true := by simpa using c1
   have C := qh c1
   clear c1
   go_enter Tryz.func93, Tryz.ntmps93
   go_wp2_with fail
   go_ret
   exact ⟨ret_bool (sameB_no (fun e => C.out (by injection e))).symm, zB⟩
theorem Fr.lt {lo : Nat} {w : World} {b : Nat} (h : Fr lo w b) : b < w.heap.size := by
 obtain ⟨_, cur, e, h⟩ := h
 rcases Nat.lt_or_ge b w.heap.size with hlt | hge
 ·exact hlt
 ·rw [Array.getElem?_eq_none hge] at h; cases h
end Go.Proofs.YtnmblfonmfjoeaaGreatDoor
