/- Contracts of SameTerm in the reference and in the program, and the law over them. -/
import Derived.Test.YtefcdpkficojgaaDoorTermHelp
import Derived.LaidEqlPtr
namespace Go.Proofs.YtefcdpkficojgaaDoor
open Go.RowKit
set_option linter.unusedVariables false

abbrev SpC (t : Tm) : Prop := ∀ (u : Tm) (k n : Int) (s : ByteArray) (A : Option Addr) (m c : Nat) (k' n' : Int) (s' : ByteArray) (A' : Option Addr) (m' c' : Nat) (w : World), TmIs AnyB w [.int .i64 k, .int .i64 n, .string s, .slice A m c] t → TmIs AnyB w [.int .i64 k', .int .i64 n', .string s', .slice A' m' c'] u →
  Calls Tryd.prog 206 #[.agg #[.int .i64 k, .int .i64 n, .string s, .slice A m c], .agg #[.int .i64 k', .int .i64 n', .string s', .slice A' m' c']] w fun e w' => e = .returned (.bool (sameB t u)) ∧ Below w.heap.size w w'
set_option maxHeartbeats 1000000 in
set_option maxRecDepth 100000 in
theorem spec_SameTerm (t : Tm) : SpC t := by
  induction hN : nodes t using Nat.strongRecOn generalizing t with
  | ind N ih =>
    intro u k n s A m c k' n' s' A' m' c' w ht hu
    obtain ⟨ss, rfl, rfl, hl, hc, _, _, _, row⟩ := ht.inv
    obtain ⟨tt, rfl, rfl, hl', hc', _, _, _, row'⟩ := hu.inv
    have IH : Hid (∀ x ∈ ss, SpC x) := Lib.hid fun x hx => ih (nodes x) (by rw [← hN]; exact kid_lt hx) x rfl
    have RW := Lib.hid row
    have RW' := Lib.hid row'
    unfold maxLen at hc hc'
    clear ih hN ht hu row row'
    have q := str_eq s s'
    by_cases c1 : k = k'
    · by_cases c2 : n = n'
      · by_cases c3 : s = s'
        · have q1 : (k != k') = false := by simp [c1]
          have q2 : (n != n') = false := by simp [c2]
          rw [decide_eq_true c3] at q
          have C := Lib.hid (And.intro c1 (And.intro c2 c3))
          clear c1 c2 c3
          by_cases g0 : ss.length = tt.length
          · have g1 : ((ss.length : Int) != (tt.length : Int)) = false := by simp [g0]
            have G := Lib.hid g0
            clear g0
            go_enter Tryd.func206, Tryd.ntmps206
            go_wp2_with fail
            go_loopw [5] (fun i wr => ∃ j : Nat, j ≤ ss.length ∧ i = .int .i64 j ∧ Below w.heap.size w wr ∧ w.heap.size + 2 ≤ wr.heap.size ∧ wr.cell? ⟨w.heap.size, 3, none⟩ = some (.slice A ss.length c) ∧ wr.cell? ⟨w.heap.size + 1, 3, none⟩ = some (.slice A' tt.length c') ∧ Hid (ss.take j = tt.take j)) (fun i _ => ss.length - (intOf i).toNat)
            case atStart => exact ⟨0, Nat.zero_le _, rfl, (by repeat' (first | exact Below.refl _ _ | exact Nat.le_refl _ | (refine Below.alloc ?_ ?_ _) | (refine Below.setCell ?_ ?_ _) | (refine Below.drew ?_) | (refine below_drewN ?_ _) | assumption | (simp; done) | (simp; omega))), by simp, by simp, by simp, Lib.hid rfl⟩
            case round =>
              obtain ⟨j, hj, rfl, hb, hsz, x3, y3, HT⟩ := hrel
              have HB := Lib.hid hb
              clear hb
              by_cases hlt : j < ss.length
              · have hlt' : j < tt.length := by rw [← G.out]; exact hlt
                obtain ⟨b, off, k1, n1, s1, A1, m1, c1, rfl, _, d0, d1, d2, d3, ht⟩ := rd_term (RW.out.belowA HB.out) hlt
                obtain ⟨b', off', k2, n2, s2, A2, m2, c2, rfl, _, e0, e1, e2, e3, ht'⟩ := rd_term (RW'.out.belowA HB.out) hlt'
                have T1 := Lib.hid ht
                have T2 := Lib.hid ht'
                clear ht ht'
                have h0k : (0 : Int) ≤ (j : Int) := by omega
                have h1k : (j : Int) < (ss.length : Int) := by omega
                have h2k : (j : Int) < (tt.length : Int) := by omega
                by_cases e : sameB ss[j] tt[j] = true
                · go_wp2_with fail
                  go_region_held3 (fun w' => w'.cell? ⟨w.heap.size, 3, none⟩ = some (.slice (some ⟨b, off, none⟩) ss.length c) ∧ w'.cell? ⟨w.heap.size + 1, 3, none⟩ = some (.slice (some ⟨b', off', none⟩) tt.length c') ∧ w'.cell? ⟨b, off + j * 4, none⟩ = some (.int .i64 k1) ∧ w'.cell? ⟨b, off + j * 4 + 1, none⟩ = some (.int .i64 n1) ∧ w'.cell? ⟨b, off + j * 4 + 2, none⟩ = some (.string s1) ∧ w'.cell? ⟨b, off + j * 4 + 3, none⟩ = some (.slice A1 m1 c1) ∧ w'.cell? ⟨b', off' + j * 4, none⟩ = some (.int .i64 k2) ∧ w'.cell? ⟨b', off' + j * 4 + 1, none⟩ = some (.int .i64 n2) ∧ w'.cell? ⟨b', off' + j * 4 + 2, none⟩ = some (.string s2) ∧ w'.cell? ⟨b', off' + j * 4 + 3, none⟩ = some (.slice A2 m2 c2))
                    (first | go_keep | exact ⟨cell_keep b1 x3, cell_keep b1 y3, cell_keep b1 d0, cell_keep b1 d1, cell_keep b1 d2, cell_keep b1 d3, cell_keep b1 e0, cell_keep b1 e1, cell_keep b1 e2, cell_keep b1 e3⟩)
                    (first | (go_at_call 206; refine (IH.out _ (List.getElem_mem hlt) tt[j] k1 n1 s1 A1 m1 c1 k2 n2 s2 A2 m2 c2 _ (by exact T1.out.drew) (by exact T2.out.drew)).mono ?_; rintro e w1 ⟨rfl, b1⟩))
                  all_goals
                    go_wp2_with fail
                    go_roundw
                    case rel => exact ⟨j + 1, by omega, by go_num, HB.out.drew.trans (b1.mono HB.out.size), Nat.le_trans hsz b1.size, cell_keep b1 x3, cell_keep b1 y3, Lib.hid (take_eq_succ HT.out hlt hlt' (sameB_true e))⟩
                    case measure => simp [intOf]; omega
                · have e' := bool_no e
                  go_wp2_with fail
                  go_region_held3 (fun w' => w'.cell? ⟨w.heap.size, 3, none⟩ = some (.slice (some ⟨b, off, none⟩) ss.length c) ∧ w'.cell? ⟨w.heap.size + 1, 3, none⟩ = some (.slice (some ⟨b', off', none⟩) tt.length c') ∧ w'.cell? ⟨b, off + j * 4, none⟩ = some (.int .i64 k1) ∧ w'.cell? ⟨b, off + j * 4 + 1, none⟩ = some (.int .i64 n1) ∧ w'.cell? ⟨b, off + j * 4 + 2, none⟩ = some (.string s1) ∧ w'.cell? ⟨b, off + j * 4 + 3, none⟩ = some (.slice A1 m1 c1) ∧ w'.cell? ⟨b', off' + j * 4, none⟩ = some (.int .i64 k2) ∧ w'.cell? ⟨b', off' + j * 4 + 1, none⟩ = some (.int .i64 n2) ∧ w'.cell? ⟨b', off' + j * 4 + 2, none⟩ = some (.string s2) ∧ w'.cell? ⟨b', off' + j * 4 + 3, none⟩ = some (.slice A2 m2 c2))
                    (first | go_keep | exact ⟨cell_keep b1 x3, cell_keep b1 y3, cell_keep b1 d0, cell_keep b1 d1, cell_keep b1 d2, cell_keep b1 d3, cell_keep b1 e0, cell_keep b1 e1, cell_keep b1 e2, cell_keep b1 e3⟩)
                    (first | (go_at_call 206; refine (IH.out _ (List.getElem_mem hlt) tt[j] k1 n1 s1 A1 m1 c1 k2 n2 s2 A2 m2 c2 _ (by exact T1.out.drew) (by exact T2.out.drew)).mono ?_; rintro e w1 ⟨rfl, b1⟩))
                  all_goals
                    go_wp2_with fail
                    go_ret
                    exact ⟨ret_bool (sameB_no (fun e => sameB_false e' (by injection e with _ _ _ e; subst e; rfl))).symm, HB.out.drew.trans (b1.mono HB.out.size)⟩
              · go_wp2_with fail
                go_ret
                have e : ss = tt := by
                  have := HT.out
                  rwa [List.take_of_length_le (by omega), List.take_of_length_le (by rw [← G.out]; omega)] at this
                obtain ⟨z1, z2, z3⟩ := C.out
                exact ⟨ret_bool (sameB_yes (by rw [z1, z2, z3, e])).symm, HB.out⟩
          · have g1 : ((ss.length : Int) != (tt.length : Int)) = true := by simp; omega
            have G := Lib.hid g0
            clear g0
            go_enter Tryd.func206, Tryd.ntmps206
            go_wp2_with fail
            go_ret
            exact ⟨ret_bool (sameB_no (fun e => G.out (by injection e with _ _ _ e; rw [e]))).symm, (by repeat' (first | exact Below.refl _ _ | exact Nat.le_refl _ | (refine Below.alloc ?_ ?_ _) | (refine Below.setCell ?_ ?_ _) | (refine Below.drew ?_) | (refine below_drewN ?_ _) | assumption | (simp; done) | (simp; omega)))⟩
        · have q1 : (k != k') = false := by simp [c1]
          have q2 : (n != n') = false := by simp [c2]
          rw [decide_no c3] at q
          have C := Lib.hid c3
          clear c1 c2 c3
          go_enter Tryd.func206, Tryd.ntmps206
          go_wp2_with fail
          go_ret
          exact ⟨ret_bool (sameB_no (fun e => C.out (by injection e))).symm, (by repeat' (first | exact Below.refl _ _ | exact Nat.le_refl _ | (refine Below.alloc ?_ ?_ _) | (refine Below.setCell ?_ ?_ _) | (refine Below.drew ?_) | (refine below_drewN ?_ _) | assumption | (simp; done) | (simp; omega)))⟩
      · have q1 : (k != k') = false := by simp [c1]
        have q2 : (n != n') = true := by simpa using c2
        have C := Lib.hid c2
        clear c1 c2
        go_enter Tryd.func206, Tryd.ntmps206
        go_wp2_with fail
        go_ret
        exact ⟨ret_bool (sameB_no (fun e => C.out (by injection e))).symm, (by repeat' (first | exact Below.refl _ _ | exact Nat.le_refl _ | (refine Below.alloc ?_ ?_ _) | (refine Below.setCell ?_ ?_ _) | (refine Below.drew ?_) | (refine below_drewN ?_ _) | assumption | (simp; done) | (simp; omega)))⟩
    · have q1 : (k != k') = true := by simpa using c1
      have C := Lib.hid c1
      clear c1
      go_enter Tryd.func206, Tryd.ntmps206
      go_wp2_with fail
      go_ret
      exact ⟨ret_bool (sameB_no (fun e => C.out (by injection e))).symm, (by repeat' (first | exact Below.refl _ _ | exact Nat.le_refl _ | (refine Below.alloc ?_ ?_ _) | (refine Below.setCell ?_ ?_ _) | (refine Below.drew ?_) | (refine below_drewN ?_ _) | assumption | (simp; done) | (simp; omega)))⟩
abbrev SaC (t : Tm) : Prop := ∀ (u : Tm) (k n : Int) (s : ByteArray) (A : Option Addr) (m c : Nat) (k' n' : Int) (s' : ByteArray) (A' : Option Addr) (m' c' : Nat) (w : World) (lo : Nat), TmIs (Fr lo w) w [.int .i64 k, .int .i64 n, .string s, .slice A m c] t → TmIs (Fr lo w) w [.int .i64 k', .int .i64 n', .string s', .slice A' m' c'] u →
  Calls Tryd.prog 170 #[.agg #[.int .i64 k, .int .i64 n, .string s, .slice A m c], .agg #[.int .i64 k', .int .i64 n', .string s', .slice A' m' c']] w fun e w' => e = .returned (.bool (sameB t u)) ∧ Below w.heap.size w w'
theorem Fr.lt {lo : Nat} {w : World} {b : Nat} (h : Fr lo w b) : b < w.heap.size := by
  obtain ⟨_, cur, e, h⟩ := h
  rcases Nat.lt_or_ge b w.heap.size with hlt | hge
  · exact hlt
  · rw [Array.getElem?_eq_none hge] at h; cases h
theorem termPtr (a : Addr) (w : World) : (binOp .eql 227 (.pointer (some a)) (.pointer (some a))).run Tryd.prog w = .ok (.bool true) w := by
  obtain ⟨i, z, hi, _⟩ := tmT.info
  exact run_eql_ptr_same w a Tryd.underlying227 hi
theorem termPtrNo {a b : Addr} {w : World} {lo : Nat} (hne : a ≠ b) (ha : Fr lo w a.block) (hb : Fr lo w b.block) : (binOp .eql 227 (.pointer (some a)) (.pointer (some b))).run Tryd.prog w = .ok (.bool false) w := by
  obtain ⟨i, z, hi, _, hs, _⟩ := tmT.info
  obtain ⟨_, ca, ta, ha⟩ := ha
  obtain ⟨_, cb, tb, hb⟩ := hb
  exact run_eql_ptr_other w Tryd.underlying227 hi (by rw [hs]; decide) hne ha hb
set_option maxHeartbeats 400000 in
theorem slices_EqualFunc (ss tt : List Tm) (ih : ∀ t ∈ ss, SaC t) (A A' : Option Addr) (c c' : Nat) (w : World) (lo : Nat) (row : TmRow (Fr lo w) w A ss) (row' : TmRow (Fr lo w) w A' tt) (hl : ss.length ≤ c) (hl' : tt.length ≤ c') (hc : c ≤ maxLen) (hc' : c' ≤ maxLen) (he : ss.length = tt.length) :
    Calls Tryd.prog 213 #[.slice A ss.length c, .slice A' tt.length c', .func (.func 170) #[] #[]] w fun e w' => e = .returned (.bool (samesB ss tt)) ∧ Below w.heap.size w w' := by
  unfold maxLen at hc hc'
  have IH := Lib.hid ih
  have RW := Lib.hid row
  have RW' := Lib.hid row'
  have g1 : ((ss.length : Int) != (tt.length : Int)) = false := by simp [he]
  have G := Lib.hid he
  clear ih row row' he
  go_enter Tryd.func213, Tryd.ntmps213
  go_wp2_with fail
  go_loopw [17] (fun i wr => ∃ j : Nat, j ≤ ss.length ∧ i = .int .i64 j ∧ Below w.heap.size w wr ∧ Hid (ss.take j = tt.take j)) (fun i _ => ss.length - (intOf i).toNat)
  case atStart => exact ⟨0, Nat.zero_le _, rfl, Below.refl _ _, Lib.hid rfl⟩
  case round =>
    obtain ⟨j, hj, rfl, hb, HT⟩ := hrel
    have HB := Lib.hid hb
    clear hb
    by_cases hlt : j < ss.length
    · have hlt' : j < tt.length := by rw [← G.out]; exact hlt
      obtain ⟨b, off, k1, n1, s1, A1, m1, c1, rfl, _, d0, d1, d2, d3, ht⟩ := rd_term (RW.out.belowF HB.out) hlt
      obtain ⟨b', off', k2, n2, s2, A2, m2, c2, rfl, _, e0, e1, e2, e3, ht'⟩ := rd_term (RW'.out.belowF HB.out) hlt'
      have T1 := Lib.hid ht
      have T2 := Lib.hid ht'
      clear ht ht'
      have lb : b < wr.heap.size := cell_lt d0
      have lb' : b' < wr.heap.size := cell_lt e0
      have h0k : (0 : Int) ≤ (j : Int) := by omega
      have h1k : (j : Int) < (ss.length : Int) := by omega
      have h2k : (j : Int) < (tt.length : Int) := by omega
      go_wp2_with fail
      refine (IH.out _ (List.getElem_mem hlt) tt[j] k1 n1 s1 A1 m1 c1 k2 n2 s2 A2 m2 c2 _ lo ?_ ?_).mono ?_
      · exact T1.out.belowF (by repeat' (first | exact Below.refl _ _ | exact Nat.le_refl _ | (refine Below.alloc ?_ ?_ _) | (refine Below.setCell ?_ ?_ _) | (refine Below.drew ?_) | (refine below_drewN ?_ _) | assumption | (simp; done) | (simp; omega)))
      · exact T2.out.belowF (by repeat' (first | exact Below.refl _ _ | exact Nat.le_refl _ | (refine Below.alloc ?_ ?_ _) | (refine Below.setCell ?_ ?_ _) | (refine Below.drew ?_) | (refine below_drewN ?_ _) | assumption | (simp; done) | (simp; omega)))
      rintro e w1 ⟨rfl, b1⟩
      have B1 : Below w.heap.size w w1 := Below.trans (Below.trans HB.out (Below.mono (by repeat' (first | exact Below.refl _ _ | exact Nat.le_refl _ | (refine Below.alloc ?_ ?_ _) | (refine Below.setCell ?_ ?_ _) | (refine Below.drew ?_) | (refine below_drewN ?_ _) | assumption | (simp; done) | (simp; omega))) HB.out.size)) (b1.mono (by have := HB.out.size; simp; omega))
      have H1 := Lib.hid B1
      clear b1 B1
      by_cases e : sameB ss[j] tt[j] = true
      · go_wp2_with fail
        go_roundw
        case rel => exact ⟨j + 1, by omega, by go_num, H1.out, Lib.hid (take_eq_succ HT.out hlt hlt' (sameB_true e))⟩
        case measure => simp [intOf]; omega
      · have e' := bool_no e
        go_wp2_with fail
        go_ret
        exact ⟨ret_bool (samesB_no (fun e => sameB_false e' (by subst e; rfl))).symm, H1.out⟩
    · go_wp2_with fail
      go_ret
      have e : ss = tt := by
        have := HT.out
        rwa [List.take_of_length_le (by omega), List.take_of_length_le (by rw [← G.out]; omega)] at this
      exact ⟨ret_bool (samesB_yes e).symm, HB.out⟩
set_option maxHeartbeats 400000 in
theorem impl_SameTerm (t : Tm) : SaC t := by
  induction hN : nodes t using Nat.strongRecOn generalizing t with
  | ind N ih =>
    intro u k n s A m c k' n' s' A' m' c' w lo ht hu
    obtain ⟨ss, rfl, rfl, hl, hc, _, _, _, row⟩ := ht.inv
    obtain ⟨tt, rfl, rfl, hl', hc', _, _, _, row'⟩ := hu.inv
    have IH : Hid (∀ x ∈ ss, SaC x) := Lib.hid fun x hx => ih (nodes x) (by rw [← hN]; exact kid_lt hx) x rfl
    have RW := Lib.hid row
    have RW' := Lib.hid row'
    unfold maxLen at hc hc'
    clear ih hN ht hu row row'
    have q := str_eq s s'
    by_cases c1 : k = k'
    · by_cases c2 : n = n'
      · by_cases c3 : s = s'
        · have q1 : (k != k') = false := by simp [c1]
          have q2 : (n != n') = false := by simp [c2]
          rw [decide_eq_true c3] at q
          have C := Lib.hid (And.intro c1 (And.intro c2 c3))
          clear c1 c2 c3
          by_cases g0 : ss.length = tt.length
          · have g1 : ((ss.length : Int) != (tt.length : Int)) = false := by simp [g0]
            by_cases g2 : ss.length = 0
            · have g3 : ((ss.length : Int) == 0) = true := by simp [g2]
              have G := Lib.hid (And.intro g0 g2)
              clear g0 g2
              go_enter Tryd.func170, Tryd.ntmps170
              go_wp2_with fail
              go_quiet (fail)
              go_wp2_with fail
              go_ret
              obtain ⟨z1, z2, z3⟩ := C.out
              have e1 : ss = [] := List.eq_nil_of_length_eq_zero G.out.2
              have e2 : tt = [] := List.eq_nil_of_length_eq_zero (by rw [← G.out.1]; exact G.out.2)
              exact ⟨ret_bool (sameB_yes (by rw [z1, z2, z3, e1, e2])).symm, (by repeat' (first | exact Below.refl _ _ | exact Nat.le_refl _ | (refine Below.alloc ?_ ?_ _) | (refine Below.setCell ?_ ?_ _) | (refine Below.drew ?_) | (refine below_drewN ?_ _) | assumption | (simp; done) | (simp; omega)))⟩
            · have g3 : ((ss.length : Int) == 0) = false := beq_eq_false_iff_ne.2 (by omega)
              have hp : 0 < ss.length := by omega
              have hp' : 0 < tt.length := by omega
              have hpi : (0 : Int) < (ss.length : Int) := by omega
              have hpi' : (0 : Int) < (tt.length : Int) := by omega
              obtain ⟨b, off, _, _, _, _, _, _, rfl, hFb, _⟩ := rd_term RW.out hp
              obtain ⟨b', off', _, _, _, _, _, _, rfl, hFb', _⟩ := rd_term RW'.out hp'
              have G := Lib.hid g0
              clear g0 g2
              by_cases e : (⟨b, off, none⟩ : Addr) = ⟨b', off', none⟩
              · have e' := e
                injection e' with e1 e2
                subst e1 e2
                have hptr := termPtr ⟨b, off, none⟩
                have KE := Lib.hid (RW.out.det RW'.out G.out)
                clear e hFb hFb'
                go_enter Tryd.func170, Tryd.ntmps170
                go_wp2_with fail
                go_quiet (fail)
                go_wp2_with fail
                go_ret
                obtain ⟨z1, z2, z3⟩ := C.out
                exact ⟨ret_bool (sameB_yes (by rw [z1, z2, z3, KE.out])).symm, (by repeat' (first | exact Below.refl _ _ | exact Nat.le_refl _ | (refine Below.alloc ?_ ?_ _) | (refine Below.setCell ?_ ?_ _) | (refine Below.drew ?_) | (refine below_drewN ?_ _) | assumption | (simp; done) | (simp; omega)))⟩
              · have F1 := Lib.hid hFb
                have F2 := Lib.hid hFb'
                have NE := Lib.hid e
                clear e hFb hFb'
                have hptr : ∀ (o1 o2 : Obj) (j : Nat), (binOp .eql 227 (.pointer (some ⟨b, off, none⟩)) (.pointer (some ⟨b', off', none⟩))).run Tryd.prog (((w.alloc o1).alloc o2).drewN j) = .ok (.bool false) (((w.alloc o1).alloc o2).drewN j) := fun o1 o2 j =>
                  termPtrNo (lo := lo) NE.out (Fr.below (below_drewN (Below.alloc (Below.alloc (Below.refl _ _) (Nat.le_refl _) o1) (by simp) o2) j) _ F1.out.lt F1.out) (Fr.below (below_drewN (Below.alloc (Below.alloc (Below.refl _ _) (Nat.le_refl _) o1) (by simp) o2) j) _ F2.out.lt F2.out)
                go_enter Tryd.func170, Tryd.ntmps170
                go_wp2_with fail
                go_quiet (fail)
                go_wp2_with fail
                refine (slices_EqualFunc ss tt IH.out _ _ c c' _ lo ?_ ?_ hl hl' (by unfold maxLen; omega) (by unfold maxLen; omega) G.out).mono ?_
                · exact RW.out.belowF (by repeat' (first | exact Below.refl _ _ | exact Nat.le_refl _ | (refine Below.alloc ?_ ?_ _) | (refine Below.setCell ?_ ?_ _) | (refine Below.drew ?_) | (refine below_drewN ?_ _) | assumption | (simp; done) | (simp; omega)))
                · exact RW'.out.belowF (by repeat' (first | exact Below.refl _ _ | exact Nat.le_refl _ | (refine Below.alloc ?_ ?_ _) | (refine Below.setCell ?_ ?_ _) | (refine Below.drew ?_) | (refine below_drewN ?_ _) | assumption | (simp; done) | (simp; omega)))
                rintro e w1 ⟨rfl, b1⟩
                have B1 : Below w.heap.size w w1 := Below.trans (by repeat' (first | exact Below.refl _ _ | exact Nat.le_refl _ | (refine Below.alloc ?_ ?_ _) | (refine Below.setCell ?_ ?_ _) | (refine Below.drew ?_) | (refine below_drewN ?_ _) | assumption | (simp; done) | (simp; omega))) (b1.mono (by simp; omega))
                have HB := Lib.hid B1
                clear b1 B1
                go_wp2_with fail
                go_ret
                refine ⟨ret_bool ?_, HB.out⟩
                obtain ⟨z1, z2, z3⟩ := C.out
                by_cases e : ss = tt
                · rw [samesB_yes e, sameB_yes (by rw [z1, z2, z3, e])]
                · rw [samesB_no e, sameB_no (fun h => e (by injection h))]
          · have g1 : ((ss.length : Int) != (tt.length : Int)) = true := by simp; omega
            have G := Lib.hid g0
            clear g0
            go_enter Tryd.func170, Tryd.ntmps170
            go_wp2_with fail
            go_ret
            exact ⟨ret_bool (sameB_no (fun e => G.out (by injection e with _ _ _ e; rw [e]))).symm, (by repeat' (first | exact Below.refl _ _ | exact Nat.le_refl _ | (refine Below.alloc ?_ ?_ _) | (refine Below.setCell ?_ ?_ _) | (refine Below.drew ?_) | (refine below_drewN ?_ _) | assumption | (simp; done) | (simp; omega)))⟩
        · have q1 : (k != k') = false := by simp [c1]
          have q2 : (n != n') = false := by simp [c2]
          rw [decide_no c3] at q
          have C := Lib.hid c3
          clear c1 c2 c3
          go_enter Tryd.func170, Tryd.ntmps170
          go_wp2_with fail
          go_ret
          exact ⟨ret_bool (sameB_no (fun e => C.out (by injection e))).symm, (by repeat' (first | exact Below.refl _ _ | exact Nat.le_refl _ | (refine Below.alloc ?_ ?_ _) | (refine Below.setCell ?_ ?_ _) | (refine Below.drew ?_) | (refine below_drewN ?_ _) | assumption | (simp; done) | (simp; omega)))⟩
      · have q1 : (k != k') = false := by simp [c1]
        have q2 : (n != n') = true := by simpa using c2
        have C := Lib.hid c2
        clear c1 c2
        go_enter Tryd.func170, Tryd.ntmps170
        go_wp2_with fail
        go_ret
        exact ⟨ret_bool (sameB_no (fun e => C.out (by injection e))).symm, (by repeat' (first | exact Below.refl _ _ | exact Nat.le_refl _ | (refine Below.alloc ?_ ?_ _) | (refine Below.setCell ?_ ?_ _) | (refine Below.drew ?_) | (refine below_drewN ?_ _) | assumption | (simp; done) | (simp; omega)))⟩
    · have q1 : (k != k') = true := by simpa using c1
      have C := Lib.hid c1
      clear c1
      go_enter Tryd.func170, Tryd.ntmps170
      go_wp2_with fail
      go_ret
      exact ⟨ret_bool (sameB_no (fun e => C.out (by injection e))).symm, (by repeat' (first | exact Below.refl _ _ | exact Nat.le_refl _ | (refine Below.alloc ?_ ?_ _) | (refine Below.setCell ?_ ?_ _) | (refine Below.drew ?_) | (refine below_drewN ?_ _) | assumption | (simp; done) | (simp; omega)))⟩
end Go.Proofs.YtefcdpkficojgaaDoor
