/- Several texts in one: TermDrw, TermOkLaw, SameTerm, ZeroTm. -/
import Derived.Test.YtadcebdhgocmhaaKs9
import Derived.Test.YtadcebdhgocmhaaKs11
import Derived.Test.YtadcebdhgocmhaaKs7
import Derived.LaidEqlPtr
namespace Go.Proofs.Ytadcebdhgocmhaa
open Go.RowKit
set_option linter.unusedVariables false


/- plain -/
theorem okT_mono {r : Nat} : ∀ {t : Tm}, okT r t = true → okT (r + 1) t = true := by
  induction r with
  | zero =>
    intro t h
    obtain ⟨k, n, s, kids⟩ := t
    by_cases h1 : k = 1
    · subst h1; rw [okT_num] at h ⊢; exact h
    by_cases h2 : k = 2
    · subst h2; rw [okT_var] at h ⊢; exact h
    rw [okT_zero (by simpa using h1) (by simpa using h2)] at h
    cases h
  | succ r ih =>
    intro t h
    obtain ⟨k, n, s, kids⟩ := t
    by_cases h1 : k = 1
    · subst h1; rw [okT_num] at h ⊢; exact h
    by_cases h2 : k = 2
    · subst h2; rw [okT_var] at h ⊢; exact h
    rw [okT_more (by simpa using h1) (by simpa using h2)] at h ⊢
    rw [Bool.and_eq_true] at h ⊢
    refine ⟨h.1, ?_⟩
    rw [List.all_eq_true] at h ⊢
    exact fun x hx => ih (h.2 x hx)
theorem okT_le {r r' : Nat} {t : Tm} (hle : r ≤ r') (h : okT r t = true) : okT r' t = true := by
  induction hle with
  | refl => exact h
  | step _ ih => exact okT_mono ih
theorem empty_name : ByteArray.empty.toList.isEmpty = true := by rw [Lib.toList_data]; rfl
theorem leafD_ok (code : List UInt8) (x : Int) (k : Cur) (r : Nat) : okT r (leafD code x k).1 = true := by
  by_cases h : x < 3
  · rw [leafD_num h, okT_num]
    have hb := belowD_bd code (n := 8) (by decide) k
    have := pickI_in (fun z => inB z 0 1000000000 = true) (zs := tmNums) (x := (belowD code 8 k).1) (by decide) (by show _ < 8; omega)
    rw [this, empty_name]; rfl
  · rw [leafD_var h, okT_var]
    have hb := belowD_bd code (n := 5) (by decide) k
    have := pickS_in (fun z => isNameL z.data.toList = true) (ss := tmNames) (x := (belowD code 5 k).1) (by decide) (by show _ < 5; omega)
    rw [this]; rfl
theorem okT_not {r : Nat} {t : Tm} (h : okT r t = true) : okT (r + 1) (.mk 8 0 ByteArray.empty [t]) = true := by
  rw [okT_more rfl rfl, empty_name]
  simp only [List.all_cons, List.all_nil, h]; rfl
theorem okT_two {r : Nat} {k : Int} {t u : Tm} (hk : k ∈ tmKinds) (h : okT r t = true) (h' : okT r u = true) : okT (r + 1) (.mk k 0 ByteArray.empty [t, u]) = true := by
  have hh : (k == 1) = false ∧ (k == 2) = false ∧ inB k 3 9 = true ∧ ((2 : Int) == manyK k) = true := by
    revert k hk; decide
  rw [okT_more hh.1 hh.2.1]
  have e : ((([t, u] : List Tm).length : Int) == manyK k) = true := hh.2.2.2
  rw [hh.2.2.1, e, empty_name]
  simp only [List.all_cons, List.all_nil, h, h']; rfl
theorem termD_ok (code : List UInt8) (d : Nat) : ∀ k, okT d (termD code d k).1 = true := by
  induction d with
  | zero => intro k; rw [termD_zero]; exact leafD_ok _ _ _ _
  | succ d ih =>
    intro k
    by_cases h6 : (belowD code 12 k).1 < 6
    · rw [termD_leaf h6]; exact leafD_ok _ _ _ _
    by_cases h7 : (belowD code 12 k).1 = 6
    · rw [termD_not h7]; exact okT_not (ih _)
    · rw [termD_two (by omega)]
      have hb := belowD_bd code (n := 6) (by decide) (belowD code 12 k).2
      exact okT_two (pickI_mem (by show _ < 6; omega)) (ih _) (ih _)

theorem spec_TermOk (t : Tm) (k n : Int) (s : ByteArray) (A : Option Addr) (m c : Nat) (w : World) (ht : TmIs AnyB w [.int .i64 k, .int .i64 n, .string s, .slice A m c] t) :
    Calls Try.prog 102 #[.agg #[.int .i64 k, .int .i64 n, .string s, .slice A m c]] w fun e w' => e = .returned (.bool (okT 6 t)) ∧ Below w.heap.size w w' := by
  have HT := Lib.hid ht
  clear ht
  go_enter Try.func102, Try.ntmps102
  go_wp2_with fail
  refine (right_at 6 (by omega) t k n s A m c _ (HT.out.belowA (by repeat' (first | exact Below.refl _ _ | exact Nat.le_refl _ | (refine Below.alloc ?_ ?_ _) | (refine Below.setCell ?_ ?_ _) | (refine Below.drew ?_) | (refine below_drewN ?_ _) | assumption | (simp; done) | (simp; omega))))).mono ?_
  rintro e w1 ⟨rfl, b1⟩
  have B1 : Below w.heap.size w w1 := Below.trans (by repeat' (first | exact Below.refl _ _ | exact Nat.le_refl _ | (refine Below.alloc ?_ ?_ _) | (refine Below.setCell ?_ ?_ _) | (refine Below.drew ?_) | (refine below_drewN ?_ _) | assumption | (simp; done) | (simp; omega))) (b1.mono (by simp))
  have H1 := Lib.hid B1
  clear b1 B1
  go_wp2_with fail
  go_ret
  exact ⟨rfl, H1.out⟩
theorem impl_TermOk (t : Tm) (k n : Int) (s : ByteArray) (A : Option Addr) (m c : Nat) (w : World) (ht : TmIs AnyB w [.int .i64 k, .int .i64 n, .string s, .slice A m c] t) :
    Calls Try.prog 99 #[.agg #[.int .i64 k, .int .i64 n, .string s, .slice A m c]] w fun e w' => e = .returned (.bool (okT 6 t)) ∧ Below w.heap.size w w' := by
  have HT := Lib.hid ht
  clear ht
  go_enter Try.func99, Try.ntmps99
  go_wp2_with fail
  refine (fits_at 6 (by omega) t k n s A m c _ (HT.out.belowA (by repeat' (first | exact Below.refl _ _ | exact Nat.le_refl _ | (refine Below.alloc ?_ ?_ _) | (refine Below.setCell ?_ ?_ _) | (refine Below.drew ?_) | (refine below_drewN ?_ _) | assumption | (simp; done) | (simp; omega))))).mono ?_
  rintro e w1 ⟨rfl, b1⟩
  have B1 : Below w.heap.size w w1 := Below.trans (by repeat' (first | exact Below.refl _ _ | exact Nat.le_refl _ | (refine Below.alloc ?_ ?_ _) | (refine Below.setCell ?_ ?_ _) | (refine Below.drew ?_) | (refine below_drewN ?_ _) | assumption | (simp; done) | (simp; omega))) (b1.mono (by simp))
  have H1 := Lib.hid B1
  clear b1 B1
  go_wp2_with fail
  go_ret
  exact ⟨rfl, H1.out⟩

abbrev SpC (t : Tm) : Prop := ∀ (u : Tm) (k n : Int) (s : ByteArray) (A : Option Addr) (m c : Nat) (k' n' : Int) (s' : ByteArray) (A' : Option Addr) (m' c' : Nat) (w : World), TmIs AnyB w [.int .i64 k, .int .i64 n, .string s, .slice A m c] t → TmIs AnyB w [.int .i64 k', .int .i64 n', .string s', .slice A' m' c'] u →
  Calls Try.prog 120 #[.agg #[.int .i64 k, .int .i64 n, .string s, .slice A m c], .agg #[.int .i64 k', .int .i64 n', .string s', .slice A' m' c']] w fun e w' => e = .returned (.bool (sameB t u)) ∧ Below w.heap.size w w'
set_option maxHeartbeats 1000000 in
set_option maxRecDepth 100000 in
theorem spec_SameTerm (t : Tm) : SpC t := by
  induction hN : nodes t using Nat.strongRecOn generalizing t with
  | ind N ih =>
    intro u k n s A m c k' n' s' A' m' c' w ht hu
    obtain ⟨ss, rfl, rfl, hl, hc, _, _, _, row⟩ := ht.inv
    obtain ⟨tt, rfl, rfl, hl', hc', _, _, _, row'⟩ := hu.inv
    have IH : Hid (∀ x ∈ ss, SpC x) := Lib.hid fun x hx => ih (nodes x) (by rw [← hN]; exact kid_lt hx) x rfl
    have RW := Lib.hid row
    have RW' := Lib.hid row'
    unfold maxLen at hc hc'
    clear ih hN ht hu row row'
    have q := str_eq s s'
    by_cases c1 : k = k'
    · by_cases c2 : n = n'
      · by_cases c3 : s = s'
        · have q1 : (k != k') = false := by simp [c1]
          have q2 : (n != n') = false := by simp [c2]
          rw [decide_eq_true c3] at q
          have C := Lib.hid (And.intro c1 (And.intro c2 c3))
          clear c1 c2 c3
          by_cases g0 : ss.length = tt.length
          · have g1 : ((ss.length : Int) != (tt.length : Int)) = false := by simp [g0]
            have G := Lib.hid g0
            clear g0
            go_enter Try.func120, Try.ntmps120
            go_wp2_with fail
            go_loopw [5] (fun i wr => ∃ j : Nat, j ≤ ss.length ∧ i = .int .i64 j ∧ Below w.heap.size w wr ∧ w.heap.size + 2 ≤ wr.heap.size ∧ wr.cell? ⟨w.heap.size, 3, none⟩ = some (.slice A ss.length c) ∧ wr.cell? ⟨w.heap.size + 1, 3, none⟩ = some (.slice A' tt.length c') ∧ Hid (ss.take j = tt.take j)) (fun i _ => ss.length - (intOf i).toNat)
            case atStart => exact ⟨0, Nat.zero_le _, rfl, (by repeat' (first | exact Below.refl _ _ | exact Nat.le_refl _ | (refine Below.alloc ?_ ?_ _) | (refine Below.setCell ?_ ?_ _) | (refine Below.drew ?_) | (refine below_drewN ?_ _) | assumption | (simp; done) | (simp; omega))), by simp, by simp, by simp, Lib.hid rfl⟩
            case round =>
              obtain ⟨j, hj, rfl, hb, hsz, x3, y3, HT⟩ := hrel
              have HB := Lib.hid hb
              clear hb
              by_cases hlt : j < ss.length
              · have hlt' : j < tt.length := by rw [← G.out]; exact hlt
                obtain ⟨b, off, k1, n1, s1, A1, m1, c1, rfl, _, d0, d1, d2, d3, ht⟩ := rd_term (RW.out.belowA HB.out) hlt
                obtain ⟨b', off', k2, n2, s2, A2, m2, c2, rfl, _, e0, e1, e2, e3, ht'⟩ := rd_term (RW'.out.belowA HB.out) hlt'
                have T1 := Lib.hid ht
                have T2 := Lib.hid ht'
                clear ht ht'
                have h0k : (0 : Int) ≤ (j : Int) := by omega
                have h1k : (j : Int) < (ss.length : Int) := by omega
                have h2k : (j : Int) < (tt.length : Int) := by omega
                by_cases e : sameB ss[j] tt[j] = true
                · go_wp2_with fail
                  go_region_held3 (fun w' => w'.cell? ⟨w.heap.size, 3, none⟩ = some (.slice (some ⟨b, off, none⟩) ss.length c) ∧ w'.cell? ⟨w.heap.size + 1, 3, none⟩ = some (.slice (some ⟨b', off', none⟩) tt.length c') ∧ w'.cell? ⟨b, off + j * 4, none⟩ = some (.int .i64 k1) ∧ w'.cell? ⟨b, off + j * 4 + 1, none⟩ = some (.int .i64 n1) ∧ w'.cell? ⟨b, off + j * 4 + 2, none⟩ = some (.string s1) ∧ w'.cell? ⟨b, off + j * 4 + 3, none⟩ = some (.slice A1 m1 c1) ∧ w'.cell? ⟨b', off' + j * 4, none⟩ = some (.int .i64 k2) ∧ w'.cell? ⟨b', off' + j * 4 + 1, none⟩ = some (.int .i64 n2) ∧ w'.cell? ⟨b', off' + j * 4 + 2, none⟩ = some (.string s2) ∧ w'.cell? ⟨b', off' + j * 4 + 3, none⟩ = some (.slice A2 m2 c2))
                    (first | go_keep | exact ⟨cell_keep b1 x3, cell_keep b1 y3, cell_keep b1 d0, cell_keep b1 d1, cell_keep b1 d2, cell_keep b1 d3, cell_keep b1 e0, cell_keep b1 e1, cell_keep b1 e2, cell_keep b1 e3⟩)
                    (first | (go_at_call 120; refine (IH.out _ (List.getElem_mem hlt) tt[j] k1 n1 s1 A1 m1 c1 k2 n2 s2 A2 m2 c2 _ (by exact T1.out.drew) (by exact T2.out.drew)).mono ?_; rintro e w1 ⟨rfl, b1⟩))
                  all_goals
                    go_wp2_with fail
                    go_roundw
                    case rel => exact ⟨j + 1, by omega, by go_num, HB.out.drew.trans (b1.mono HB.out.size), Nat.le_trans hsz b1.size, cell_keep b1 x3, cell_keep b1 y3, Lib.hid (take_eq_succ HT.out hlt hlt' (sameB_true e))⟩
                    case measure => simp [intOf]; omega
                · have e' := bool_no e
                  go_wp2_with fail
                  go_region_held3 (fun w' => w'.cell? ⟨w.heap.size, 3, none⟩ = some (.slice (some ⟨b, off, none⟩) ss.length c) ∧ w'.cell? ⟨w.heap.size + 1, 3, none⟩ = some (.slice (some ⟨b', off', none⟩) tt.length c') ∧ w'.cell? ⟨b, off + j * 4, none⟩ = some (.int .i64 k1) ∧ w'.cell? ⟨b, off + j * 4 + 1, none⟩ = some (.int .i64 n1) ∧ w'.cell? ⟨b, off + j * 4 + 2, none⟩ = some (.string s1) ∧ w'.cell? ⟨b, off + j * 4 + 3, none⟩ = some (.slice A1 m1 c1) ∧ w'.cell? ⟨b', off' + j * 4, none⟩ = some (.int .i64 k2) ∧ w'.cell? ⟨b', off' + j * 4 + 1, none⟩ = some (.int .i64 n2) ∧ w'.cell? ⟨b', off' + j * 4 + 2, none⟩ = some (.string s2) ∧ w'.cell? ⟨b', off' + j * 4 + 3, none⟩ = some (.slice A2 m2 c2))
                    (first | go_keep | exact ⟨cell_keep b1 x3, cell_keep b1 y3, cell_keep b1 d0, cell_keep b1 d1, cell_keep b1 d2, cell_keep b1 d3, cell_keep b1 e0, cell_keep b1 e1, cell_keep b1 e2, cell_keep b1 e3⟩)
                    (first | (go_at_call 120; refine (IH.out _ (List.getElem_mem hlt) tt[j] k1 n1 s1 A1 m1 c1 k2 n2 s2 A2 m2 c2 _ (by exact T1.out.drew) (by exact T2.out.drew)).mono ?_; rintro e w1 ⟨rfl, b1⟩))
                  all_goals
                    go_wp2_with fail
                    go_ret
                    exact ⟨ret_bool (sameB_no (fun e => sameB_false e' (by injection e with _ _ _ e; subst e; rfl))).symm, HB.out.drew.trans (b1.mono HB.out.size)⟩
              · go_wp2_with fail
                go_ret
                have e : ss = tt := by
                  have := HT.out
                  rwa [List.take_of_length_le (by omega), List.take_of_length_le (by rw [← G.out]; omega)] at this
                obtain ⟨z1, z2, z3⟩ := C.out
                exact ⟨ret_bool (sameB_yes (by rw [z1, z2, z3, e])).symm, HB.out⟩
          · have g1 : ((ss.length : Int) != (tt.length : Int)) = true := by simp; omega
            have G := Lib.hid g0
            clear g0
            go_enter Try.func120, Try.ntmps120
            go_wp2_with fail
            go_ret
            exact ⟨ret_bool (sameB_no (fun e => G.out (by injection e with _ _ _ e; rw [e]))).symm, (by repeat' (first | exact Below.refl _ _ | exact Nat.le_refl _ | (refine Below.alloc ?_ ?_ _) | (refine Below.setCell ?_ ?_ _) | (refine Below.drew ?_) | (refine below_drewN ?_ _) | assumption | (simp; done) | (simp; omega)))⟩
        · have q1 : (k != k') = false := by simp [c1]
          have q2 : (n != n') = false := by simp [c2]
          rw [decide_no c3] at q
          have C := Lib.hid c3
          clear c1 c2 c3
          go_enter Try.func120, Try.ntmps120
          go_wp2_with fail
          go_ret
          exact ⟨ret_bool (sameB_no (fun e => C.out (by injection e))).symm, (by repeat' (first | exact Below.refl _ _ | exact Nat.le_refl _ | (refine Below.alloc ?_ ?_ _) | (refine Below.setCell ?_ ?_ _) | (refine Below.drew ?_) | (refine below_drewN ?_ _) | assumption | (simp; done) | (simp; omega)))⟩
      · have q1 : (k != k') = false := by simp [c1]
        have q2 : (n != n') = true := by simpa using c2
        have C := Lib.hid c2
        clear c1 c2
        go_enter Try.func120, Try.ntmps120
        go_wp2_with fail
        go_ret
        exact ⟨ret_bool (sameB_no (fun e => C.out (by injection e))).symm, (by repeat' (first | exact Below.refl _ _ | exact Nat.le_refl _ | (refine Below.alloc ?_ ?_ _) | (refine Below.setCell ?_ ?_ _) | (refine Below.drew ?_) | (refine below_drewN ?_ _) | assumption | (simp; done) | (simp; omega)))⟩
    · have q1 : (k != k') = true := by simpa using c1
      have C := Lib.hid c1
      clear c1
      go_enter Try.func120, Try.ntmps120
      go_wp2_with fail
      go_ret
      exact ⟨ret_bool (sameB_no (fun e => C.out (by injection e))).symm, (by repeat' (first | exact Below.refl _ _ | exact Nat.le_refl _ | (refine Below.alloc ?_ ?_ _) | (refine Below.setCell ?_ ?_ _) | (refine Below.drew ?_) | (refine below_drewN ?_ _) | assumption | (simp; done) | (simp; omega)))⟩
theorem Fr.lt {lo : Nat} {w : World} {b : Nat} (h : Fr lo w b) : b < w.heap.size := by
  obtain ⟨_, cur, e, h⟩ := h
  rcases Nat.lt_or_ge b w.heap.size with hlt | hge
  · exact hlt
  · rw [Array.getElem?_eq_none hge] at h; cases h

def zeroTm : Tm := .mk 0 0 ByteArray.empty []
theorem empty_of {s : ByteArray} (h : s.toList.isEmpty = true) : s = ByteArray.empty := by
  rw [Lib.toList_data] at h
  apply str_ext
  rw [List.isEmpty_iff.1 h]; rfl
theorem zero_iff (k n : Int) (s : ByteArray) (kids : List Tm) : sameB (.mk k n s kids) zeroTm = ((k == 0) && (n == 0) && s.toList.isEmpty && ((kids.length : Int) == 0)) := by
  cases h : ((k == 0) && (n == 0) && s.toList.isEmpty && ((kids.length : Int) == 0)) with
  | true =>
    simp only [Bool.and_eq_true, beq_iff_eq] at h
    obtain ⟨⟨⟨h1, h2⟩, h3⟩, h4⟩ := h
    have e4 : kids = [] := List.eq_nil_of_length_eq_zero (by omega)
    exact sameB_yes (by rw [h1, h2, empty_of h3, e4]; rfl)
  | false =>
    refine sameB_no fun e => ?_
    unfold zeroTm at e
    injection e with e1 e2 e3 e4
    subst e1 e2 e3 e4
    have h3 : (ByteArray.empty).toList.isEmpty = true := by rw [Lib.toList_data]; rfl
    rw [h3] at h
    simp at h
set_option maxHeartbeats 800000 in
theorem impl_isZeroTerm (t : Tm) (k n : Int) (s : ByteArray) (A : Option Addr) (m c : Nat) (w : World) (ht : TmIs AnyB w [.int .i64 k, .int .i64 n, .string s, .slice A m c] t) :
    Calls Try.prog 109 #[.agg #[.int .i64 k, .int .i64 n, .string s, .slice A m c]] w fun e w' => e = .returned (.bool (sameB t zeroTm)) ∧ Below w.heap.size w w' := by
  obtain ⟨kids, rfl, rfl, hl, hc, _⟩ := ht.inv
  unfold maxLen at hc
  clear ht
  rw [zero_iff]
  cases h1 : (k == 0) <;> cases h2 : (n == 0) <;> cases h3 : s.toList.isEmpty <;> cases h4 : ((kids.length : Int) == 0)
  all_goals
    go_enter Try.func109, Try.ntmps109
    go_wp2_with fail
    go_ret
    exact ⟨rfl, (by repeat' (first | exact Below.refl _ _ | exact Nat.le_refl _ | (refine Below.alloc ?_ ?_ _) | (refine Below.setCell ?_ ?_ _) | (refine Below.drew ?_) | (refine below_drewN ?_ _) | assumption | (simp; done) | (simp; omega)))⟩
end Go.Proofs.Ytadcebdhgocmhaa
