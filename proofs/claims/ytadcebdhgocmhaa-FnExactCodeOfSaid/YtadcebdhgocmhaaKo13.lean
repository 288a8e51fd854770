/- Lemmas for the row. -/
import Derived.Test.YtadcebdhgocmhaaKo12
import Derived.Test.YtadcebdhgocmhaaKo5
import Derived.LaidEqlPtr
namespace Go.Proofs.Ytadcebdhgocmhaa
open Go.RowKit
set_option linter.unusedVariables false
theorem spec_TermOk (t : Tm) (k n : Int) (s : ByteArray) (A : Option Addr) (m c : Nat) (w : World) (ht : TmIs AnyB w [.int .i64 k, .int .i64 n, .string s, .slice A m c] t) :
    Calls Try.prog 102 #[.agg #[.int .i64 k, .int .i64 n, .string s, .slice A m c]] w fun e w' => e = .returned (.bool (okT 6 t)) ∧ Below w.heap.size w w' := by
  have HT := Lib.hid ht
  clear ht
  go_enter Try.func102, Try.ntmps102
  go_wp2_with fail
  refine (right_at 6 (by omega) t k n s A m c _ (HT.out.belowA (by repeat' first|exact .refl _ _|exact Nat.le_refl _|refine .alloc ?_ ?_ _|refine .setCell ?_ ?_ _|refine .drew ?_|refine below_drewN ?_ _|assumption|(simp;done)|(simp;omega)))).mono ?_
  rintro e w1 ⟨rfl, b1⟩
  have B1 : Below w.heap.size w w1 := Below.trans (by repeat' first|exact .refl _ _|exact Nat.le_refl _|refine .alloc ?_ ?_ _|refine .setCell ?_ ?_ _|refine .drew ?_|refine below_drewN ?_ _|assumption|(simp;done)|(simp;omega)) (b1.mono (by simp))
  have H1 := Lib.hid B1
  clear b1 B1
  go_wp2_with fail
  go_ret
  exact ⟨rfl, H1.out⟩
theorem impl_TermOk (t : Tm) (k n : Int) (s : ByteArray) (A : Option Addr) (m c : Nat) (w : World) (ht : TmIs AnyB w [.int .i64 k, .int .i64 n, .string s, .slice A m c] t) :
    Calls Try.prog 99 #[.agg #[.int .i64 k, .int .i64 n, .string s, .slice A m c]] w fun e w' => e = .returned (.bool (okT 6 t)) ∧ Below w.heap.size w w' := by
  have HT := Lib.hid ht
  clear ht
  go_enter Try.func99, Try.ntmps99
  go_wp2_with fail
  refine (fits_at 6 (by omega) t k n s A m c _ (HT.out.belowA (by repeat' first|exact .refl _ _|exact Nat.le_refl _|refine .alloc ?_ ?_ _|refine .setCell ?_ ?_ _|refine .drew ?_|refine below_drewN ?_ _|assumption|(simp;done)|(simp;omega)))).mono ?_
  rintro e w1 ⟨rfl, b1⟩
  have B1 : Below w.heap.size w w1 := Below.trans (by repeat' first|exact .refl _ _|exact Nat.le_refl _|refine .alloc ?_ ?_ _|refine .setCell ?_ ?_ _|refine .drew ?_|refine below_drewN ?_ _|assumption|(simp;done)|(simp;omega)) (b1.mono (by simp))
  have H1 := Lib.hid B1
  clear b1 B1
  go_wp2_with fail
  go_ret
  exact ⟨rfl, H1.out⟩
abbrev SpC (t : Tm) : Prop := ∀ (u : Tm) (k n : Int) (s : ByteArray) (A : Option Addr) (m c : Nat) (k' n' : Int) (s' : ByteArray) (A' : Option Addr) (m' c' : Nat) (w : World), TmIs AnyB w [.int .i64 k, .int .i64 n, .string s, .slice A m c] t → TmIs AnyB w [.int .i64 k', .int .i64 n', .string s', .slice A' m' c'] u →
  Calls Try.prog 120 #[.agg #[.int .i64 k, .int .i64 n, .string s, .slice A m c], .agg #[.int .i64 k', .int .i64 n', .string s', .slice A' m' c']] w fun e w' => e = .returned (.bool (sameB t u)) ∧ Below w.heap.size w w'
set_option maxHeartbeats 1000000 in
set_option maxRecDepth 100000 in
theorem spec_SameTerm (t : Tm) : SpC t := by
  induction hN : nodes t using Nat.strongRecOn generalizing t with
  | ind N ih =>
    intro u k n s A m c k' n' s' A' m' c' w ht hu
    obtain ⟨ss, rfl, rfl, hl, hc, _, _, _, row⟩ := ht.inv
    obtain ⟨tt, rfl, rfl, hl', hc', _, _, _, row'⟩ := hu.inv
    have IH : Hid (∀ x ∈ ss, SpC x) := Lib.hid fun x hx => ih (nodes x) (by rw [← hN]; exact kid_lt hx) x rfl
    have RW := Lib.hid row
    have RW' := Lib.hid row'
    unfold maxLen at hc hc'
    clear ih hN ht hu row row'
    have q := str_eq s s'
    by_cases c1 : k = k'
    · by_cases c2 : n = n'
      · by_cases c3 : s = s'
        · have q1 : (k != k') = false := by simp [c1]
          have q2 : (n != n') = false := by simp [c2]
          rw [decide_eq_true c3] at q
          have C := Lib.hid (And.intro c1 (And.intro c2 c3))
          clear c1 c2 c3
          by_cases g0 : ss.length = tt.length
          · have g1 : ((ss.length : Int) != (tt.length : Int)) = false := by simp [g0]
            have G := Lib.hid g0
            clear g0
            go_enter Try.func120, Try.ntmps120
            go_wp2_with fail
            go_loopw [5] (fun i wr => ∃ j : Nat, j ≤ ss.length ∧ i = .int .i64 j ∧ Below w.heap.size w wr ∧ w.heap.size + 2 ≤ wr.heap.size ∧ wr.cell? ⟨w.heap.size, 3, none⟩ = some (.slice A ss.length c) ∧ wr.cell? ⟨w.heap.size + 1, 3, none⟩ = some (.slice A' tt.length c') ∧ Hid (ss.take j = tt.take j)) (fun i _ => ss.length - (intOf i).toNat)
            case atStart => exact ⟨0, Nat.zero_le _, rfl, (by repeat' first|exact .refl _ _|exact Nat.le_refl _|refine .alloc ?_ ?_ _|refine .setCell ?_ ?_ _|refine .drew ?_|refine below_drewN ?_ _|assumption|(simp;done)|(simp;omega)), by simp, by simp, by simp, Lib.hid rfl⟩
            case round =>
              obtain ⟨j, hj, rfl, hb, hsz, x3, y3, HT⟩ := hrel
              have HB := Lib.hid hb
              clear hb
              by_cases hlt : j < ss.length
              · have hlt' : j < tt.length := by rw [← G.out]; exact hlt
                obtain ⟨b, off, k1, n1, s1, A1, m1, c1, rfl, _, d0, d1, d2, d3, ht⟩ := rd_term (RW.out.belowA HB.out) hlt
                obtain ⟨b', off', k2, n2, s2, A2, m2, c2, rfl, _, e0, e1, e2, e3, ht'⟩ := rd_term (RW'.out.belowA HB.out) hlt'
                have T1 := Lib.hid ht
                have T2 := Lib.hid ht'
                clear ht ht'
                have h0k : (0 : Int) ≤ (j : Int) := by omega
                have h1k : (j : Int) < (ss.length : Int) := by omega
                have h2k : (j : Int) < (tt.length : Int) := by omega
                by_cases e : sameB ss[j] tt[j] = true
                · go_wp2_with fail
                  go_region_held3 (fun w' => w'.cell? ⟨w.heap.size, 3, none⟩ = some (.slice (some ⟨b, off, none⟩) ss.length c) ∧ w'.cell? ⟨w.heap.size + 1, 3, none⟩ = some (.slice (some ⟨b', off', none⟩) tt.length c') ∧ w'.cell? ⟨b, off + j * 4, none⟩ = some (.int .i64 k1) ∧ w'.cell? ⟨b, off + j * 4 + 1, none⟩ = some (.int .i64 n1) ∧ w'.cell? ⟨b, off + j * 4 + 2, none⟩ = some (.string s1) ∧ w'.cell? ⟨b, off + j * 4 + 3, none⟩ = some (.slice A1 m1 c1) ∧ w'.cell? ⟨b', off' + j * 4, none⟩ = some (.int .i64 k2) ∧ w'.cell? ⟨b', off' + j * 4 + 1, none⟩ = some (.int .i64 n2) ∧ w'.cell? ⟨b', off' + j * 4 + 2, none⟩ = some (.string s2) ∧ w'.cell? ⟨b', off' + j * 4 + 3, none⟩ = some (.slice A2 m2 c2))
                    (first | go_keep | exact ⟨cell_keep b1 x3, cell_keep b1 y3, cell_keep b1 d0, cell_keep b1 d1, cell_keep b1 d2, cell_keep b1 d3, cell_keep b1 e0, cell_keep b1 e1, cell_keep b1 e2, cell_keep b1 e3⟩)
                    (first | (go_at_call 120; refine (IH.out _ (List.getElem_mem hlt) tt[j] k1 n1 s1 A1 m1 c1 k2 n2 s2 A2 m2 c2 _ (by exact T1.out.drew) (by exact T2.out.drew)).mono ?_; rintro e w1 ⟨rfl, b1⟩))
                  all_goals
                    go_wp2_with fail
                    go_roundw
                    case rel => exact ⟨j + 1, by omega, by go_num, HB.out.drew.trans (b1.mono HB.out.size), Nat.le_trans hsz b1.size, cell_keep b1 x3, cell_keep b1 y3, Lib.hid (take_eq_succ HT.out hlt hlt' (sameB_true e))⟩
                    case measure => simp [intOf]; omega
                · have e' := bool_no e
                  go_wp2_with fail
                  go_region_held3 (fun w' => w'.cell? ⟨w.heap.size, 3, none⟩ = some (.slice (some ⟨b, off, none⟩) ss.length c) ∧ w'.cell? ⟨w.heap.size + 1, 3, none⟩ = some (.slice (some ⟨b', off', none⟩) tt.length c') ∧ w'.cell? ⟨b, off + j * 4, none⟩ = some (.int .i64 k1) ∧ w'.cell? ⟨b, off + j * 4 + 1, none⟩ = some (.int .i64 n1) ∧ w'.cell? ⟨b, off + j * 4 + 2, none⟩ = some (.string s1) ∧ w'.cell? ⟨b, off + j * 4 + 3, none⟩ = some (.slice A1 m1 c1) ∧ w'.cell? ⟨b', off' + j * 4, none⟩ = some (.int .i64 k2) ∧ w'.cell? ⟨b', off' + j * 4 + 1, none⟩ = some (.int .i64 n2) ∧ w'.cell? ⟨b', off' + j * 4 + 2, none⟩ = some (.string s2) ∧ w'.cell? ⟨b', off' + j * 4 + 3, none⟩ = some (.slice A2 m2 c2))
                    (first | go_keep | exact ⟨cell_keep b1 x3, cell_keep b1 y3, cell_keep b1 d0, cell_keep b1 d1, cell_keep b1 d2, cell_keep b1 d3, cell_keep b1 e0, cell_keep b1 e1, cell_keep b1 e2, cell_keep b1 e3⟩)
                    (first | (go_at_call 120; refine (IH.out _ (List.getElem_mem hlt) tt[j] k1 n1 s1 A1 m1 c1 k2 n2 s2 A2 m2 c2 _ (by exact T1.out.drew) (by exact T2.out.drew)).mono ?_; rintro e w1 ⟨rfl, b1⟩))
                  all_goals
                    go_wp2_with fail
                    go_ret
                    exact ⟨ret_bool (sameB_no (fun e => sameB_false e' (by injection e with _ _ _ e; subst e; rfl))).symm, HB.out.drew.trans (b1.mono HB.out.size)⟩
              · go_wp2_with fail
                go_ret
                have e : ss = tt := by
                  have := HT.out
                  rwa [List.take_of_length_le (by omega), List.take_of_length_le (by rw [← G.out]; omega)] at this
                obtain ⟨z1, z2, z3⟩ := C.out
                exact ⟨ret_bool (sameB_yes (by rw [z1, z2, z3, e])).symm, HB.out⟩
          · have g1 : ((ss.length : Int) != (tt.length : Int)) = true := by simp; omega
            have G := Lib.hid g0
            clear g0
            go_enter Try.func120, Try.ntmps120
            go_wp2_with fail
            go_ret
            exact ⟨ret_bool (sameB_no (fun e => G.out (by injection e with _ _ _ e; rw [e]))).symm, (by repeat' first|exact .refl _ _|exact Nat.le_refl _|refine .alloc ?_ ?_ _|refine .setCell ?_ ?_ _|refine .drew ?_|refine below_drewN ?_ _|assumption|(simp;done)|(simp;omega))⟩
        · have q1 : (k != k') = false := by simp [c1]
          have q2 : (n != n') = false := by simp [c2]
          rw [decide_no c3] at q
          have C := Lib.hid c3
          clear c1 c2 c3
          go_enter Try.func120, Try.ntmps120
          go_wp2_with fail
          go_ret
          exact ⟨ret_bool (sameB_no (fun e => C.out (by injection e))).symm, (by repeat' first|exact .refl _ _|exact Nat.le_refl _|refine .alloc ?_ ?_ _|refine .setCell ?_ ?_ _|refine .drew ?_|refine below_drewN ?_ _|assumption|(simp;done)|(simp;omega))⟩
      · have q1 : (k != k') = false := by simp [c1]
        have q2 : (n != n') = true := by simpa using c2
        have C := Lib.hid c2
        clear c1 c2
        go_enter Try.func120, Try.ntmps120
        go_wp2_with fail
        go_ret
        exact ⟨ret_bool (sameB_no (fun e => C.out (by injection e))).symm, (by repeat' first|exact .refl _ _|exact Nat.le_refl _|refine .alloc ?_ ?_ _|refine .setCell ?_ ?_ _|refine .drew ?_|refine below_drewN ?_ _|assumption|(simp;done)|(simp;omega))⟩
    · have q1 : (k != k') = true := by simpa using c1
      have C := Lib.hid c1
      clear c1
      go_enter Try.func120, Try.ntmps120
      go_wp2_with fail
      go_ret
      exact ⟨ret_bool (sameB_no (fun e => C.out (by injection e))).symm, (by repeat' first|exact .refl _ _|exact Nat.le_refl _|refine .alloc ?_ ?_ _|refine .setCell ?_ ?_ _|refine .drew ?_|refine below_drewN ?_ _|assumption|(simp;done)|(simp;omega))⟩
theorem Fr.lt {lo : Nat} {w : World} {b : Nat} (h : Fr lo w b) : b < w.heap.size := by
  obtain ⟨_, cur, e, h⟩ := h
  rcases Nat.lt_or_ge b w.heap.size with hlt | hge
  · exact hlt
  · rw [Array.getElem?_eq_none hge] at h; cases h
end Go.Proofs.Ytadcebdhgocmhaa
