/- Lemmas for the row. -/
import Derived.Test.YtadcebdhgocmhaaKo5
import Derived.Test.YtadcebdhgocmhaaKo11
import Derived.Test.YtadcebdhgocmhaaKo6
namespace Go.Proofs.Ytadcebdhgocmhaa
open Go.RowKit
set_option linter.unusedVariables false
def manyK (k : Int) : Int := if k = 8 then 1 else 2
theorem many8 {k : Int} (h : (k == 8) = true) : manyK k = 1 := by unfold manyK; rw [if_pos (by simpa using h)]
theorem many2 {k : Int} (h : (k == 8) = false) : manyK k = 2 := by unfold manyK; rw [if_neg (by simpa using h)]
def okT : Nat → Tm → Bool
  | room, .mk k n s kids =>
    if k = 1 then inB n 0 1000000000 && s.toList.isEmpty && ((kids.length : Int) == 0)
    else if k = 2 then (n == 0) && isNameL s.data.toList && ((kids.length : Int) == 0)
    else match room with
      | 0 => false
      | r + 1 => inB k 3 9 && (n == 0) && s.toList.isEmpty && ((kids.length : Int) == manyK k) && kids.all (okT r)
theorem okT_num (room : Nat) (n : Int) (s : ByteArray) (kids : List Tm) : okT room (.mk 1 n s kids) = (inB n 0 1000000000 && s.toList.isEmpty && ((kids.length : Int) == 0)) := by
  cases room <;> simp [okT]
theorem okT_var (room : Nat) (n : Int) (s : ByteArray) (kids : List Tm) : okT room (.mk 2 n s kids) = ((n == 0) && isNameL s.data.toList && ((kids.length : Int) == 0)) := by
  cases room <;> simp [okT]
theorem okT_zero {k : Int} (h1 : (k == 1) = false) (h2 : (k == 2) = false) (n : Int) (s : ByteArray) (kids : List Tm) : okT 0 (.mk k n s kids) = false := by
  simp only [beq_eq_false_iff_ne] at h1 h2
  simp [okT, h1, h2]
theorem okT_more {k : Int} (h1 : (k == 1) = false) (h2 : (k == 2) = false) (r : Nat) (n : Int) (s : ByteArray) (kids : List Tm) : okT (r + 1) (.mk k n s kids) = (inB k 3 9 && (n == 0) && s.toList.isEmpty && ((kids.length : Int) == manyK k) && kids.all (okT r)) := by
  simp only [beq_eq_false_iff_ne] at h1 h2
  rw [okT, if_neg h1, if_neg h2]
theorem okT_no {k n : Int} {s : ByteArray} {kids : List Tm} (h1 : (k == 1) = false) (h2 : (k == 2) = false) (h : inB k 3 9 = false ∨ (n == 0) = false ∨ s.toList.isEmpty = false ∨ ((kids.length : Int) == manyK k) = false) (room : Nat) : okT room (.mk k n s kids) = false := by
  cases room with
  | zero => exact okT_zero h1 h2 n s kids
  | succ r => rw [okT_more h1 h2]; rcases h with h | h | h | h <;> rw [h] <;> simp
theorem okT_all {k n : Int} {s : ByteArray} {kids : List Tm} (h1 : (k == 1) = false) (h2 : (k == 2) = false) (h3 : inB k 3 9 = true) (hn : (n == 0) = true) (hs : s.toList.isEmpty = true) (hl : ((kids.length : Int) == manyK k) = true) (r : Nat) : okT (r + 1) (.mk k n s kids) = kids.all (okT r) := by
  rw [okT_more h1 h2, h3, hn, hs, hl]; simp
theorem allT_no {kids : List Tm} {r j : Nat} (hj : j < kids.length) (h : okT r kids[j] = false) : kids.all (okT r) = false := by
  rw [List.all_eq_false]; exact ⟨kids[j], List.getElem_mem hj, by simp [h]⟩
theorem allT_succ {kids : List Tm} {r j : Nat} (hj : j < kids.length) (h : (kids.take j).all (okT r) = true) (e : okT r kids[j] = true) : (kids.take (j + 1)).all (okT r) = true := by
  have e1 : kids.take (j + 1) = kids.take j ++ [kids[j]] := List.take_succ_eq_append_getElem hj
  rw [e1, List.all_append, h]; simp [e]
theorem bne_of {n m : Int} {b : Bool} (h : (n == m) = b) : (n != m) = !b := by simp [bne, h]
set_option maxHeartbeats 1000000 in
set_option maxRecDepth 100000 in
theorem right_num (room : Nat) (n : Int) (s : ByteArray) (A : Option Addr) (c : Nat) (kids : List Tm) (w : World) :
    Calls Try.prog 114 #[.agg #[.int .i64 1, .int .i64 n, .string s, .slice A kids.length c], .int .i64 (room : Int)] w fun e w' => e = .returned (.bool (okT room (.mk 1 n s kids))) ∧ Below w.heap.size w w' := by
  rw [okT_num]
  cases h1 : inB n 0 1000000000 <;> cases h2 : s.toList.isEmpty <;> cases h3 : ((kids.length : Int) == 0)
  all_goals
    go_enter Try.func114, Try.ntmps114
    go_wp2_with (first | (go_at_call 121; refine (spec_l01In _ _ _ _).mono ?_; rintro e w' ⟨rfl, rfl⟩) | (go_at_call 76; refine (spec_IsName _ _).mono ?_; rintro e w' ⟨rfl, rfl⟩))
    go_ret
    exact ⟨rfl, (by repeat' first|exact .refl _ _|exact Nat.le_refl _|refine .alloc ?_ ?_ _|refine .setCell ?_ ?_ _|refine .drew ?_|refine below_drewN ?_ _|assumption|(simp;done)|(simp;omega))⟩
set_option maxHeartbeats 1000000 in
set_option maxRecDepth 100000 in
theorem right_var (room : Nat) (n : Int) (s : ByteArray) (A : Option Addr) (c : Nat) (kids : List Tm) (w : World) :
    Calls Try.prog 114 #[.agg #[.int .i64 2, .int .i64 n, .string s, .slice A kids.length c], .int .i64 (room : Int)] w fun e w' => e = .returned (.bool (okT room (.mk 2 n s kids))) ∧ Below w.heap.size w w' := by
  rw [okT_var]
  cases h1 : (n == 0) <;> cases h2 : isNameL s.data.toList <;> cases h3 : ((kids.length : Int) == 0)
  all_goals
    go_enter Try.func114, Try.ntmps114
    go_wp2_with (first | (go_at_call 121; refine (spec_l01In _ _ _ _).mono ?_; rintro e w' ⟨rfl, rfl⟩) | (go_at_call 76; refine (spec_IsName _ _).mono ?_; rintro e w' ⟨rfl, rfl⟩))
    go_ret
    exact ⟨rfl, (by repeat' first|exact .refl _ _|exact Nat.le_refl _|refine .alloc ?_ ?_ _|refine .setCell ?_ ?_ _|refine .drew ?_|refine below_drewN ?_ _|assumption|(simp;done)|(simp;omega))⟩
abbrev rightC (room : Nat) : Prop := ∀ (t : Tm) (k n : Int) (s : ByteArray) (A : Option Addr) (m c : Nat) (w : World), TmIs AnyB w [.int .i64 k, .int .i64 n, .string s, .slice A m c] t →
  Calls Try.prog 114 #[.agg #[.int .i64 k, .int .i64 n, .string s, .slice A m c], .int .i64 (room : Int)] w fun e w' => e = .returned (.bool (okT room t)) ∧ Below w.heap.size w w'
set_option maxHeartbeats 1000000 in
set_option maxRecDepth 100000 in
theorem right_no (room : Nat) (k n : Int) (s : ByteArray) (A : Option Addr) (c : Nat) (kids : List Tm) (w : World) (h1 : (k == 1) = false) (h2 : (k == 2) = false) (h : inB k 3 9 = false ∨ (n == 0) = false ∨ s.toList.isEmpty = false ∨ ((kids.length : Int) == manyK k) = false ∨ room = 0) :
    Calls Try.prog 114 #[.agg #[.int .i64 k, .int .i64 n, .string s, .slice A kids.length c], .int .i64 (room : Int)] w fun e w' => e = .returned (.bool false) ∧ Below w.heap.size w w' := by
  cases a1 : inB k 3 9
  · clear h
    cases a8 : (k == 8)
    all_goals
      go_enter Try.func114, Try.ntmps114
      go_wp2_with (first | (go_at_call 121; refine (spec_l01In _ _ _ _).mono ?_; rintro e w' ⟨rfl, rfl⟩) | (go_at_call 76; refine (spec_IsName _ _).mono ?_; rintro e w' ⟨rfl, rfl⟩))
      go_ret
      exact ⟨rfl, (by repeat' first|exact .refl _ _|exact Nat.le_refl _|refine .alloc ?_ ?_ _|refine .setCell ?_ ?_ _|refine .drew ?_|refine below_drewN ?_ _|assumption|(simp;done)|(simp;omega))⟩
  cases a2 : (n == 0)
  · have a2' := bne_of a2
    clear h
    cases a8 : (k == 8)
    all_goals
      go_enter Try.func114, Try.ntmps114
      go_wp2_with (first | (go_at_call 121; refine (spec_l01In _ _ _ _).mono ?_; rintro e w' ⟨rfl, rfl⟩) | (go_at_call 76; refine (spec_IsName _ _).mono ?_; rintro e w' ⟨rfl, rfl⟩))
      go_ret
      exact ⟨rfl, (by repeat' first|exact .refl _ _|exact Nat.le_refl _|refine .alloc ?_ ?_ _|refine .setCell ?_ ?_ _|refine .drew ?_|refine below_drewN ?_ _|assumption|(simp;done)|(simp;omega))⟩
  have a2' := bne_of a2
  cases a3 : s.toList.isEmpty
  · clear h
    cases a8 : (k == 8)
    all_goals
      go_enter Try.func114, Try.ntmps114
      go_wp2_with (first | (go_at_call 121; refine (spec_l01In _ _ _ _).mono ?_; rintro e w' ⟨rfl, rfl⟩) | (go_at_call 76; refine (spec_IsName _ _).mono ?_; rintro e w' ⟨rfl, rfl⟩))
      go_ret
      exact ⟨rfl, (by repeat' first|exact .refl _ _|exact Nat.le_refl _|refine .alloc ?_ ?_ _|refine .setCell ?_ ?_ _|refine .drew ?_|refine below_drewN ?_ _|assumption|(simp;done)|(simp;omega))⟩
  cases a4 : ((kids.length : Int) == manyK k)
  · clear h
    cases a8 : (k == 8)
    · rw [many2 a8] at a4
      have a4' := bne_of a4
      go_enter Try.func114, Try.ntmps114
      go_wp2_with (first | (go_at_call 121; refine (spec_l01In _ _ _ _).mono ?_; rintro e w' ⟨rfl, rfl⟩) | (go_at_call 76; refine (spec_IsName _ _).mono ?_; rintro e w' ⟨rfl, rfl⟩))
      go_ret
      exact ⟨rfl, (by repeat' first|exact .refl _ _|exact Nat.le_refl _|refine .alloc ?_ ?_ _|refine .setCell ?_ ?_ _|refine .drew ?_|refine below_drewN ?_ _|assumption|(simp;done)|(simp;omega))⟩
    · rw [many8 a8] at a4
      have a4' := bne_of a4
      go_enter Try.func114, Try.ntmps114
      go_wp2_with (first | (go_at_call 121; refine (spec_l01In _ _ _ _).mono ?_; rintro e w' ⟨rfl, rfl⟩) | (go_at_call 76; refine (spec_IsName _ _).mono ?_; rintro e w' ⟨rfl, rfl⟩))
      go_ret
      exact ⟨rfl, (by repeat' first|exact .refl _ _|exact Nat.le_refl _|refine .alloc ?_ ?_ _|refine .setCell ?_ ?_ _|refine .drew ?_|refine below_drewN ?_ _|assumption|(simp;done)|(simp;omega))⟩
  obtain rfl : room = 0 := by simpa [a1, a2, a3, a4] using h
  clear h
  cases a8 : (k == 8)
  · rw [many2 a8] at a4
    have a4' := bne_of a4
    go_enter Try.func114, Try.ntmps114
    go_wp2_with (first | (go_at_call 121; refine (spec_l01In _ _ _ _).mono ?_; rintro e w' ⟨rfl, rfl⟩) | (go_at_call 76; refine (spec_IsName _ _).mono ?_; rintro e w' ⟨rfl, rfl⟩))
    go_ret
    exact ⟨rfl, (by repeat' first|exact .refl _ _|exact Nat.le_refl _|refine .alloc ?_ ?_ _|refine .setCell ?_ ?_ _|refine .drew ?_|refine below_drewN ?_ _|assumption|(simp;done)|(simp;omega))⟩
  · rw [many8 a8] at a4
    have a4' := bne_of a4
    go_enter Try.func114, Try.ntmps114
    go_wp2_with (first | (go_at_call 121; refine (spec_l01In _ _ _ _).mono ?_; rintro e w' ⟨rfl, rfl⟩) | (go_at_call 76; refine (spec_IsName _ _).mono ?_; rintro e w' ⟨rfl, rfl⟩))
    go_ret
    exact ⟨rfl, (by repeat' first|exact .refl _ _|exact Nat.le_refl _|refine .alloc ?_ ?_ _|refine .setCell ?_ ?_ _|refine .drew ?_|refine below_drewN ?_ _|assumption|(simp;done)|(simp;omega))⟩
set_option maxHeartbeats 2000000 in
set_option maxRecDepth 100000 in
theorem right_loop (room : Nat) (ih : rightC room) (hr : room ≤ 100) (k n : Int) (s : ByteArray) (A : Option Addr) (c : Nat) (kids : List Tm) (w : World) (row : TmRow AnyB w A kids) (hl : kids.length ≤ c) (hc : c ≤ maxLen) (h1 : (k == 1) = false) (h2 : (k == 2) = false) (a1 : inB k 3 9 = true) (a2 : (n == 0) = true) (a3 : s.toList.isEmpty = true) (a4 : ((kids.length : Int) == manyK k) = true) :
    Calls Try.prog 114 #[.agg #[.int .i64 k, .int .i64 n, .string s, .slice A kids.length c], .int .i64 ((room : Int) + 1)] w fun e w' => e = .returned (.bool (okT (room + 1) (.mk k n s kids))) ∧ Below w.heap.size w w' := by
  unfold maxLen at hc
  have FA := Lib.hid (okT_all h1 h2 a1 a2 a3 a4 room)
  have IH := Lib.hid ih
  have RW := Lib.hid row
  have a2' := bne_of a2
  have hz : (((room : Int) + 1) == 0) = false := beq_eq_false_iff_ne.2 (by omega)
  clear ih row
  cases a8 : (k == 8)
  · rw [many2 a8] at a4
    have a4' := bne_of a4
    (
      go_enter Try.func114, Try.ntmps114
      go_wp2_with (first | (go_at_call 121; refine (spec_l01In _ _ _ _).mono ?_; rintro e w' ⟨rfl, rfl⟩) | (go_at_call 76; refine (spec_IsName _ _).mono ?_; rintro e w' ⟨rfl, rfl⟩))
      go_loopw [6] (fun i wr => ∃ j : Nat, j ≤ kids.length ∧ i = .int .i64 j ∧ Below w.heap.size w wr ∧ w.heap.size < wr.heap.size ∧ wr.cell? ⟨w.heap.size, 3, none⟩ = some (.slice A kids.length c) ∧ Hid ((kids.take j).all (okT room) = true)) (fun i _ => kids.length - (intOf i).toNat)
      case atStart => exact ⟨0, Nat.zero_le _, rfl, (by repeat' first|exact .refl _ _|exact Nat.le_refl _|refine .alloc ?_ ?_ _|refine .setCell ?_ ?_ _|refine .drew ?_|refine below_drewN ?_ _|assumption|(simp;done)|(simp;omega)), by simp, by simp, Lib.hid rfl⟩
      case round =>
        obtain ⟨j, hj, rfl, hb, hsz, x3, HA⟩ := hrel
        have HB := Lib.hid hb
        clear hb
        by_cases hlt : j < kids.length
        · obtain ⟨b, off, k1, n1, s1, A1, m1, c1, rfl, _, d0, d1, d2, d3, ht⟩ := rd_term (RW.out.belowA HB.out) hlt
          have T1 := Lib.hid ht
          clear ht
          have h0k : (0 : Int) ≤ (j : Int) := by omega
          have hr1 : (room : Int) + 1 - 1 = (room : Int) := by omega
          go_wp2_with fail
          refine (IH.out kids[j] k1 n1 s1 A1 m1 c1 _ ?_).mono ?_
          · exact T1.out.belowA (by repeat' first|exact .refl _ _|exact Nat.le_refl _|refine .alloc ?_ ?_ _|refine .setCell ?_ ?_ _|refine .drew ?_|refine below_drewN ?_ _|assumption|(simp;done)|(simp;omega))
          rintro e w1 ⟨rfl, b1⟩
          have B1 : Below wr.heap.size wr w1 := Below.trans (by repeat' first|exact .refl _ _|exact Nat.le_refl _|refine .alloc ?_ ?_ _|refine .setCell ?_ ?_ _|refine .drew ?_|refine below_drewN ?_ _|assumption|(simp;done)|(simp;omega)) (b1.mono (by simp))
          have H1 := Lib.hid (HB.out.trans (B1.mono HB.out.size))
          have x3' := cell_keep B1 x3
          have hs1 := B1.size
          clear b1 B1
          cases e : okT room kids[j]
          · have F := Lib.hid (allT_no hlt e)
            go_wp2_with fail
            go_ret
            exact ⟨ret_bool (F.out.symm.trans FA.out.symm), H1.out⟩
          · go_wp2_with fail
            go_roundw
            case rel => exact ⟨j + 1, by omega, by go_num, H1.out, by omega, x3', Lib.hid (allT_succ hlt HA.out e)⟩
            case measure => simp [intOf]; omega
        · go_wp2_with fail
          go_ret
          have := HA.out
          rw [List.take_of_length_le (by omega)] at this
          exact ⟨ret_bool (by rw [FA.out, this]), HB.out⟩)
  · rw [many8 a8] at a4
    have a4' := bne_of a4
    (
      go_enter Try.func114, Try.ntmps114
      go_wp2_with (first | (go_at_call 121; refine (spec_l01In _ _ _ _).mono ?_; rintro e w' ⟨rfl, rfl⟩) | (go_at_call 76; refine (spec_IsName _ _).mono ?_; rintro e w' ⟨rfl, rfl⟩))
      go_loopw [6] (fun i wr => ∃ j : Nat, j ≤ kids.length ∧ i = .int .i64 j ∧ Below w.heap.size w wr ∧ w.heap.size < wr.heap.size ∧ wr.cell? ⟨w.heap.size, 3, none⟩ = some (.slice A kids.length c) ∧ Hid ((kids.take j).all (okT room) = true)) (fun i _ => kids.length - (intOf i).toNat)
      case atStart => exact ⟨0, Nat.zero_le _, rfl, (by repeat' first|exact .refl _ _|exact Nat.le_refl _|refine .alloc ?_ ?_ _|refine .setCell ?_ ?_ _|refine .drew ?_|refine below_drewN ?_ _|assumption|(simp;done)|(simp;omega)), by simp, by simp, Lib.hid rfl⟩
      case round =>
        obtain ⟨j, hj, rfl, hb, hsz, x3, HA⟩ := hrel
        have HB := Lib.hid hb
        clear hb
        by_cases hlt : j < kids.length
        · obtain ⟨b, off, k1, n1, s1, A1, m1, c1, rfl, _, d0, d1, d2, d3, ht⟩ := rd_term (RW.out.belowA HB.out) hlt
          have T1 := Lib.hid ht
          clear ht
          have h0k : (0 : Int) ≤ (j : Int) := by omega
          have hr1 : (room : Int) + 1 - 1 = (room : Int) := by omega
          go_wp2_with fail
          refine (IH.out kids[j] k1 n1 s1 A1 m1 c1 _ ?_).mono ?_
          · exact T1.out.belowA (by repeat' first|exact .refl _ _|exact Nat.le_refl _|refine .alloc ?_ ?_ _|refine .setCell ?_ ?_ _|refine .drew ?_|refine below_drewN ?_ _|assumption|(simp;done)|(simp;omega))
          rintro e w1 ⟨rfl, b1⟩
          have B1 : Below wr.heap.size wr w1 := Below.trans (by repeat' first|exact .refl _ _|exact Nat.le_refl _|refine .alloc ?_ ?_ _|refine .setCell ?_ ?_ _|refine .drew ?_|refine below_drewN ?_ _|assumption|(simp;done)|(simp;omega)) (b1.mono (by simp))
          have H1 := Lib.hid (HB.out.trans (B1.mono HB.out.size))
          have x3' := cell_keep B1 x3
          have hs1 := B1.size
          clear b1 B1
          cases e : okT room kids[j]
          · have F := Lib.hid (allT_no hlt e)
            go_wp2_with fail
            go_ret
            exact ⟨ret_bool (F.out.symm.trans FA.out.symm), H1.out⟩
          · go_wp2_with fail
            go_roundw
            case rel => exact ⟨j + 1, by omega, by go_num, H1.out, by omega, x3', Lib.hid (allT_succ hlt HA.out e)⟩
            case measure => simp [intOf]; omega
        · go_wp2_with fail
          go_ret
          have := HA.out
          rw [List.take_of_length_le (by omega)] at this
          exact ⟨ret_bool (by rw [FA.out, this]), HB.out⟩)
theorem right_at (room : Nat) (hr : room ≤ 100) : rightC room := by
  induction room with
  | zero =>
    intro t k n s A m c w ht
    obtain ⟨kids, rfl, rfl, hl, hc, _, _, _, row⟩ := ht.inv
    by_cases g1 : k = 1
    · subst g1; exact right_num 0 n s A c kids w
    by_cases g2 : k = 2
    · subst g2; exact right_var 0 n s A c kids w
    have h1 : (k == 1) = false := beq_eq_false_iff_ne.2 g1
    have h2 : (k == 2) = false := beq_eq_false_iff_ne.2 g2
    rw [okT_zero h1 h2]
    exact right_no 0 k n s A c kids w h1 h2 (.inr (.inr (.inr (.inr rfl))))
  | succ room ih =>
    intro t k n s A m c w ht
    obtain ⟨kids, rfl, rfl, hl, hc, _, _, _, row⟩ := ht.inv
    by_cases g1 : k = 1
    · subst g1; exact right_num (room + 1) n s A c kids w
    by_cases g2 : k = 2
    · subst g2; exact right_var (room + 1) n s A c kids w
    have h1 : (k == 1) = false := beq_eq_false_iff_ne.2 g1
    have h2 : (k == 2) = false := beq_eq_false_iff_ne.2 g2
    cases a1 : inB k 3 9
    · rw [okT_no h1 h2 (.inl a1)]; exact right_no _ k n s A c kids w h1 h2 (.inl a1)
    cases a2 : (n == 0)
    · rw [okT_no h1 h2 (.inr (.inl a2))]; exact right_no _ k n s A c kids w h1 h2 (.inr (.inl a2))
    cases a3 : s.toList.isEmpty
    · rw [okT_no h1 h2 (.inr (.inr (.inl a3)))]; exact right_no _ k n s A c kids w h1 h2 (.inr (.inr (.inl a3)))
    cases a4 : ((kids.length : Int) == manyK k)
    · rw [okT_no h1 h2 (.inr (.inr (.inr a4)))]; exact right_no _ k n s A c kids w h1 h2 (.inr (.inr (.inr (.inl a4))))
    exact right_loop room (ih (by omega)) (by omega) k n s A c kids w row hl hc h1 h2 a1 a2 a3 a4
set_option maxHeartbeats 1000000 in
set_option maxRecDepth 100000 in
theorem fits_num (room : Nat) (n : Int) (s : ByteArray) (A : Option Addr) (c : Nat) (kids : List Tm) (w : World) :
    Calls Try.prog 110 #[.agg #[.int .i64 1, .int .i64 n, .string s, .slice A kids.length c], .int .i64 (room : Int)] w fun e w' => e = .returned (.bool (okT room (.mk 1 n s kids))) ∧ Below w.heap.size w w' := by
  rw [okT_num]
  by_cases g1 : 0 ≤ n
  · by_cases g2 : n ≤ 1000000000
    · rw [inB_yes g1 g2]
      cases h2 : s.toList.isEmpty <;> cases h3 : ((kids.length : Int) == 0)
      all_goals
        go_enter Try.func110, Try.ntmps110
        go_wp2_with fail
        go_ret
        exact ⟨rfl, (by repeat' first|exact .refl _ _|exact Nat.le_refl _|refine .alloc ?_ ?_ _|refine .setCell ?_ ?_ _|refine .drew ?_|refine below_drewN ?_ _|assumption|(simp;done)|(simp;omega))⟩
    · rw [inB_no (.inr (by omega))]
      have g2' := decide_no g2
      go_enter Try.func110, Try.ntmps110
      go_wp2_with fail
      go_ret
      exact ⟨rfl, (by repeat' first|exact .refl _ _|exact Nat.le_refl _|refine .alloc ?_ ?_ _|refine .setCell ?_ ?_ _|refine .drew ?_|refine below_drewN ?_ _|assumption|(simp;done)|(simp;omega))⟩
  · rw [inB_no (.inl (by omega))]
    have g1' := decide_no g1
    go_enter Try.func110, Try.ntmps110
    go_wp2_with fail
    go_ret
    exact ⟨rfl, (by repeat' first|exact .refl _ _|exact Nat.le_refl _|refine .alloc ?_ ?_ _|refine .setCell ?_ ?_ _|refine .drew ?_|refine below_drewN ?_ _|assumption|(simp;done)|(simp;omega))⟩
set_option maxHeartbeats 1000000 in
set_option maxRecDepth 100000 in
theorem fits_var (room : Nat) (n : Int) (s : ByteArray) (A : Option Addr) (c : Nat) (kids : List Tm) (w : World) :
    Calls Try.prog 110 #[.agg #[.int .i64 2, .int .i64 n, .string s, .slice A kids.length c], .int .i64 (room : Int)] w fun e w' => e = .returned (.bool (okT room (.mk 2 n s kids))) ∧ Below w.heap.size w w' := by
  rw [okT_var]
  cases h1 : (n == 0) <;> cases h2 : isNameL s.data.toList <;> cases h3 : ((kids.length : Int) == 0)
  all_goals
    go_enter Try.func110, Try.ntmps110
    go_wp2_with (first | (go_at_call 69; refine (impl_IsName _ _).mono ?_; rintro e w' ⟨rfl, rfl⟩))
    go_ret
    exact ⟨rfl, (by repeat' first|exact .refl _ _|exact Nat.le_refl _|refine .alloc ?_ ?_ _|refine .setCell ?_ ?_ _|refine .drew ?_|refine below_drewN ?_ _|assumption|(simp;done)|(simp;omega))⟩
abbrev fitsC (room : Nat) : Prop := ∀ (t : Tm) (k n : Int) (s : ByteArray) (A : Option Addr) (m c : Nat) (w : World), TmIs AnyB w [.int .i64 k, .int .i64 n, .string s, .slice A m c] t →
  Calls Try.prog 110 #[.agg #[.int .i64 k, .int .i64 n, .string s, .slice A m c], .int .i64 (room : Int)] w fun e w' => e = .returned (.bool (okT room t)) ∧ Below w.heap.size w w'
set_option maxHeartbeats 1000000 in
set_option maxRecDepth 100000 in
theorem fits_no (room : Nat) (k n : Int) (s : ByteArray) (A : Option Addr) (c : Nat) (kids : List Tm) (w : World) (h1 : (k == 1) = false) (h2 : (k == 2) = false) (h : inB k 3 9 = false ∨ (n == 0) = false ∨ s.toList.isEmpty = false ∨ ((kids.length : Int) == manyK k) = false ∨ room = 0) :
    Calls Try.prog 110 #[.agg #[.int .i64 k, .int .i64 n, .string s, .slice A kids.length c], .int .i64 (room : Int)] w fun e w' => e = .returned (.bool false) ∧ Below w.heap.size w w' := by
  cases a1 : inB k 3 9
  · clear h
    have b3 : (k == 3) = false := beq_eq_false_iff_ne.2 (by rintro rfl; simp [inB] at a1)
    have b4 : (k == 4) = false := beq_eq_false_iff_ne.2 (by rintro rfl; simp [inB] at a1)
    have b5 : (k == 5) = false := beq_eq_false_iff_ne.2 (by rintro rfl; simp [inB] at a1)
    have b6 : (k == 6) = false := beq_eq_false_iff_ne.2 (by rintro rfl; simp [inB] at a1)
    have b7 : (k == 7) = false := beq_eq_false_iff_ne.2 (by rintro rfl; simp [inB] at a1)
    have b8 : (k == 8) = false := beq_eq_false_iff_ne.2 (by rintro rfl; simp [inB] at a1)
    have b9 : (k == 9) = false := beq_eq_false_iff_ne.2 (by rintro rfl; simp [inB] at a1)
    go_enter Try.func110, Try.ntmps110
    go_wp2_with (first | (go_at_call 69; refine (impl_IsName _ _).mono ?_; rintro e w' ⟨rfl, rfl⟩))
    go_ret
    exact ⟨rfl, (by repeat' first|exact .refl _ _|exact Nat.le_refl _|refine .alloc ?_ ?_ _|refine .setCell ?_ ?_ _|refine .drew ?_|refine below_drewN ?_ _|assumption|(simp;done)|(simp;omega))⟩
  have hk : k = 3 ∨ k = 4 ∨ k = 5 ∨ k = 6 ∨ k = 7 ∨ k = 8 ∨ k = 9 := by have := inB_le a1; omega
  clear h1 h2
  cases a4 : ((kids.length : Int) == manyK k)
  · clear h a1
    have a4' := bne_of a4
    rcases hk with rfl | rfl | rfl | rfl | rfl | rfl | rfl
    all_goals
      simp only [manyK, Int.reduceEq, if_true, if_false] at a4 a4'
      go_enter Try.func110, Try.ntmps110
      go_wp2_with (first | (go_at_call 69; refine (impl_IsName _ _).mono ?_; rintro e w' ⟨rfl, rfl⟩))
      go_ret
      exact ⟨rfl, (by repeat' first|exact .refl _ _|exact Nat.le_refl _|refine .alloc ?_ ?_ _|refine .setCell ?_ ?_ _|refine .drew ?_|refine below_drewN ?_ _|assumption|(simp;done)|(simp;omega))⟩
  have a4' := bne_of a4
  cases a2 : (n == 0)
  · clear h a1
    have a2' := bne_of a2
    rcases hk with rfl | rfl | rfl | rfl | rfl | rfl | rfl
    all_goals
      simp only [manyK, Int.reduceEq, if_true, if_false] at a4 a4'
      go_enter Try.func110, Try.ntmps110
      go_wp2_with (first | (go_at_call 69; refine (impl_IsName _ _).mono ?_; rintro e w' ⟨rfl, rfl⟩))
      go_ret
      exact ⟨rfl, (by repeat' first|exact .refl _ _|exact Nat.le_refl _|refine .alloc ?_ ?_ _|refine .setCell ?_ ?_ _|refine .drew ?_|refine below_drewN ?_ _|assumption|(simp;done)|(simp;omega))⟩
  have a2' := bne_of a2
  cases a3 : s.toList.isEmpty
  · clear h a1
    rcases hk with rfl | rfl | rfl | rfl | rfl | rfl | rfl
    all_goals
      simp only [manyK, Int.reduceEq, if_true, if_false] at a4 a4'
      go_enter Try.func110, Try.ntmps110
      go_wp2_with (first | (go_at_call 69; refine (impl_IsName _ _).mono ?_; rintro e w' ⟨rfl, rfl⟩))
      go_ret
      exact ⟨rfl, (by repeat' first|exact .refl _ _|exact Nat.le_refl _|refine .alloc ?_ ?_ _|refine .setCell ?_ ?_ _|refine .drew ?_|refine below_drewN ?_ _|assumption|(simp;done)|(simp;omega))⟩
  obtain rfl : room = 0 := by simpa [a1, a2, a3, a4] using h
  clear h a1
  rcases hk with rfl | rfl | rfl | rfl | rfl | rfl | rfl
  all_goals
    simp only [manyK, Int.reduceEq, if_true, if_false] at a4 a4'
    go_enter Try.func110, Try.ntmps110
    go_wp2_with (first | (go_at_call 69; refine (impl_IsName _ _).mono ?_; rintro e w' ⟨rfl, rfl⟩))
    go_ret
    exact ⟨rfl, (by repeat' first|exact .refl _ _|exact Nat.le_refl _|refine .alloc ?_ ?_ _|refine .setCell ?_ ?_ _|refine .drew ?_|refine below_drewN ?_ _|assumption|(simp;done)|(simp;omega))⟩
set_option maxHeartbeats 2000000 in
set_option maxRecDepth 100000 in
theorem fits_loop (room : Nat) (ih : fitsC room) (hr : room ≤ 100) (k n : Int) (s : ByteArray) (A : Option Addr) (c : Nat) (kids : List Tm) (w : World) (row : TmRow AnyB w A kids) (hl : kids.length ≤ c) (hc : c ≤ maxLen) (h1 : (k == 1) = false) (h2 : (k == 2) = false) (a1 : inB k 3 9 = true) (a2 : (n == 0) = true) (a3 : s.toList.isEmpty = true) (a4 : ((kids.length : Int) == manyK k) = true) :
    Calls Try.prog 110 #[.agg #[.int .i64 k, .int .i64 n, .string s, .slice A kids.length c], .int .i64 ((room : Int) + 1)] w fun e w' => e = .returned (.bool (okT (room + 1) (.mk k n s kids))) ∧ Below w.heap.size w w' := by
  unfold maxLen at hc
  have FA := Lib.hid (okT_all h1 h2 a1 a2 a3 a4 room)
  have IH := Lib.hid ih
  have RW := Lib.hid row
  have a2' := bne_of a2
  have hz : (((room : Int) + 1) == 0) = false := beq_eq_false_iff_ne.2 (by omega)
  clear ih row
  have hk : k = 3 ∨ k = 4 ∨ k = 5 ∨ k = 6 ∨ k = 7 ∨ k = 8 ∨ k = 9 := by have := inB_le a1; omega
  clear h1 h2 a1
  rcases hk with rfl | rfl | rfl | rfl | rfl | rfl | rfl
  all_goals
    have a4' := bne_of a4
    simp only [manyK, Int.reduceEq, if_true, if_false] at a4 a4'
    (
      go_enter Try.func110, Try.ntmps110
      go_wp2_with (first | (go_at_call 69; refine (impl_IsName _ _).mono ?_; rintro e w' ⟨rfl, rfl⟩))
      go_loopw [78] (fun i wr => ∃ j : Nat, j ≤ kids.length ∧ i = .int .i64 j ∧ Below w.heap.size w wr ∧ w.heap.size < wr.heap.size ∧ wr.cell? ⟨w.heap.size, 3, none⟩ = some (.slice A kids.length c) ∧ Hid ((kids.take j).all (okT room) = true)) (fun i _ => kids.length - (intOf i).toNat)
      case atStart => exact ⟨0, Nat.zero_le _, rfl, (by repeat' first|exact .refl _ _|exact Nat.le_refl _|refine .alloc ?_ ?_ _|refine .setCell ?_ ?_ _|refine .drew ?_|refine below_drewN ?_ _|assumption|(simp;done)|(simp;omega)), by simp, by simp, Lib.hid rfl⟩
      case round =>
        obtain ⟨j, hj, rfl, hb, hsz, x3, HA⟩ := hrel
        have HB := Lib.hid hb
        clear hb
        by_cases hlt : j < kids.length
        · obtain ⟨b, off, k1, n1, s1, A1, m1, c1, rfl, _, d0, d1, d2, d3, ht⟩ := rd_term (RW.out.belowA HB.out) hlt
          have T1 := Lib.hid ht
          clear ht
          have h0k : (0 : Int) ≤ (j : Int) := by omega
          have hr1 : (room : Int) + 1 - 1 = (room : Int) := by omega
          go_wp2_with fail
          refine (IH.out kids[j] k1 n1 s1 A1 m1 c1 _ ?_).mono ?_
          · exact T1.out.belowA (by repeat' first|exact .refl _ _|exact Nat.le_refl _|refine .alloc ?_ ?_ _|refine .setCell ?_ ?_ _|refine .drew ?_|refine below_drewN ?_ _|assumption|(simp;done)|(simp;omega))
          rintro e w1 ⟨rfl, b1⟩
          have B1 : Below wr.heap.size wr w1 := Below.trans (by repeat' first|exact .refl _ _|exact Nat.le_refl _|refine .alloc ?_ ?_ _|refine .setCell ?_ ?_ _|refine .drew ?_|refine below_drewN ?_ _|assumption|(simp;done)|(simp;omega)) (b1.mono (by simp))
          have H1 := Lib.hid (HB.out.trans (B1.mono HB.out.size))
          have x3' := cell_keep B1 x3
          have hs1 := B1.size
          clear b1 B1
          cases e : okT room kids[j]
          · have F := Lib.hid (allT_no hlt e)
            go_wp2_with fail
            go_ret
            exact ⟨ret_bool (F.out.symm.trans FA.out.symm), H1.out⟩
          · go_wp2_with fail
            go_roundw
            case rel => exact ⟨j + 1, by omega, by go_num, H1.out, by omega, x3', Lib.hid (allT_succ hlt HA.out e)⟩
            case measure => simp [intOf]; omega
        · go_wp2_with fail
          go_ret
          have := HA.out
          rw [List.take_of_length_le (by omega)] at this
          exact ⟨ret_bool (by rw [FA.out, this]), HB.out⟩)
theorem fits_at (room : Nat) (hr : room ≤ 100) : fitsC room := by
  induction room with
  | zero =>
    intro t k n s A m c w ht
    obtain ⟨kids, rfl, rfl, hl, hc, _, _, _, row⟩ := ht.inv
    by_cases g1 : k = 1
    · subst g1; exact fits_num 0 n s A c kids w
    by_cases g2 : k = 2
    · subst g2; exact fits_var 0 n s A c kids w
    have h1 : (k == 1) = false := beq_eq_false_iff_ne.2 g1
    have h2 : (k == 2) = false := beq_eq_false_iff_ne.2 g2
    rw [okT_zero h1 h2]
    exact fits_no 0 k n s A c kids w h1 h2 (.inr (.inr (.inr (.inr rfl))))
  | succ room ih =>
    intro t k n s A m c w ht
    obtain ⟨kids, rfl, rfl, hl, hc, _, _, _, row⟩ := ht.inv
    by_cases g1 : k = 1
    · subst g1; exact fits_num (room + 1) n s A c kids w
    by_cases g2 : k = 2
    · subst g2; exact fits_var (room + 1) n s A c kids w
    have h1 : (k == 1) = false := beq_eq_false_iff_ne.2 g1
    have h2 : (k == 2) = false := beq_eq_false_iff_ne.2 g2
    cases a1 : inB k 3 9
    · rw [okT_no h1 h2 (.inl a1)]; exact fits_no _ k n s A c kids w h1 h2 (.inl a1)
    cases a2 : (n == 0)
    · rw [okT_no h1 h2 (.inr (.inl a2))]; exact fits_no _ k n s A c kids w h1 h2 (.inr (.inl a2))
    cases a3 : s.toList.isEmpty
    · rw [okT_no h1 h2 (.inr (.inr (.inl a3)))]; exact fits_no _ k n s A c kids w h1 h2 (.inr (.inr (.inl a3)))
    cases a4 : ((kids.length : Int) == manyK k)
    · rw [okT_no h1 h2 (.inr (.inr (.inr a4)))]; exact fits_no _ k n s A c kids w h1 h2 (.inr (.inr (.inr (.inl a4))))
    exact fits_loop room (ih (by omega)) (by omega) k n s A c kids w row hl hc h1 h2 a1 a2 a3 a4
end Go.Proofs.Ytadcebdhgocmhaa
