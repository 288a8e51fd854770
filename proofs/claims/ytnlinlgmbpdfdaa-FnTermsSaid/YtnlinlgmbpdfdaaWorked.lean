/- What a right term comes to, walked through the reference and the program. -/
import Derived.Test.YtnlinlgmbpdfdaaWork
namespace Go.Proofs.Ytnlinlgmbpdfdaa
open Go.RowKit
set_option linter.unusedVariables false

set_option maxHeartbeats 1000000 in
set_option maxRecDepth 100000 in
theorem impl_work_num (names : List ByteArray) (values : List Int) (n : Int) (s : ByteArray) (A : Option Addr) (m c : Nat) (kids : List Tm) (vn vi : Value) (w : World) (hn : i64in n) :
    Calls Try.prog 19 #[.agg #[.int .i64 1, .int .i64 n, .string s, .slice A m c], vn, vi] w fun e w' => e = .returned (.int .i64 (valT names values (.mk 1 n s kids))) ∧ Below w.heap.size w w' := by
  rw [valT_num]
  go_enter Try.func19, Try.ntmps19
  go_wp2_with fail
  refine (impl_rest n hn _).mono ?_
  rintro e w1 ⟨rfl, rfl⟩
  go_wp2_with fail
  go_ret
  exact ⟨rfl, (by repeat' (first | exact Below.refl _ _ | exact Nat.le_refl _ | (refine Below.alloc ?_ ?_ _) | (refine Below.setCell ?_ ?_ _) | (refine Below.drew ?_) | (refine below_drewN ?_ _) | assumption | (simp; done) | (simp; omega)))⟩
set_option maxHeartbeats 1000000 in
set_option maxRecDepth 100000 in
theorem impl_work_var (names : List ByteArray) (values : List Int) (n : Int) (s : ByteArray) (A : Option Addr) (m c : Nat) (kids : List Tm) (vn vi : Value) (w : World) (hs : IsStrs w vn names) (hi : IsInts w vi values) (hv : ∀ z ∈ values, i64in z) :
    Calls Try.prog 19 #[.agg #[.int .i64 2, .int .i64 n, .string s, .slice A m c], vn, vi] w fun e w' => e = .returned (.int .i64 (valT names values (.mk 2 n s kids))) ∧ Below w.heap.size w w' := by
  rw [valT_var]
  have HS := Lib.hid hs
  have HI := Lib.hid hi
  have HV := Lib.hid hv
  obtain ⟨Ai, ci, rfl, hl, hc, rd⟩ := hi
  unfold maxLen at hc
  clear hs hv
  cases hf : names.findIdx? (fun x => decide (x = s)) with
  | none =>
    have P := Lib.hid (placeS_none hf)
    rw [varK_no hf]
    clear hf rd
    go_enter Try.func19, Try.ntmps19
    go_wp2_with fail
    refine (slices_Index vn names s _ (HS.out.below (by repeat' (first | exact Below.refl _ _ | exact Nat.le_refl _ | (refine Below.alloc ?_ ?_ _) | (refine Below.setCell ?_ ?_ _) | (refine Below.drew ?_) | (refine below_drewN ?_ _) | assumption | (simp; done) | (simp; omega))))).mono ?_
    rintro e w1 ⟨rfl, rfl⟩
    rw [P.out]
    go_wp2_with fail
    go_ret
    exact ⟨rfl, (by repeat' (first | exact Below.refl _ _ | exact Nat.le_refl _ | (refine Below.alloc ?_ ?_ _) | (refine Below.setCell ?_ ?_ _) | (refine Below.drew ?_) | (refine below_drewN ?_ _) | assumption | (simp; done) | (simp; omega)))⟩
  | some k =>
    have P := Lib.hid (placeS_some hf)
    by_cases hk : k < values.length
    · rw [varK_at hf hk]
      obtain ⟨b, off, rfl, hcell⟩ := rd_int rd hk
      have hz : decide ((k : Int) < 0) = false := decide_no (by omega)
      have h0 : (0 : Int) ≤ (k : Int) := by omega
      clear hf rd
      go_enter Try.func19, Try.ntmps19
      go_wp2_with fail
      refine (slices_Index vn names s _ (HS.out.below (by repeat' (first | exact Below.refl _ _ | exact Nat.le_refl _ | (refine Below.alloc ?_ ?_ _) | (refine Below.setCell ?_ ?_ _) | (refine Below.drew ?_) | (refine below_drewN ?_ _) | assumption | (simp; done) | (simp; omega))))).mono ?_
      rintro e w1 ⟨rfl, rfl⟩
      rw [P.out]
      have hcell' := cell_keep (w1 := w.alloc (.cells #[.int .i64 2, .int .i64 n, .string s, .slice A m c] 26)) (by repeat' (first | exact Below.refl _ _ | exact Nat.le_refl _ | (refine Below.alloc ?_ ?_ _) | (refine Below.setCell ?_ ?_ _) | (refine Below.drew ?_) | (refine below_drewN ?_ _) | assumption | (simp; done) | (simp; omega))) hcell
      go_wp2_with fail
      refine (impl_rest _ (HV.out _ (List.getElem_mem hk)) _).mono ?_
      rintro e w1 ⟨rfl, rfl⟩
      go_wp2_with fail
      go_ret
      exact ⟨rfl, (by repeat' (first | exact Below.refl _ _ | exact Nat.le_refl _ | (refine Below.alloc ?_ ?_ _) | (refine Below.setCell ?_ ?_ _) | (refine Below.drew ?_) | (refine below_drewN ?_ _) | assumption | (simp; done) | (simp; omega)))⟩
    · rw [varK_over hf (by omega)]
      have hz : decide ((k : Int) < 0) = false := decide_no (by omega)
      have hg : values.length ≤ k := by omega
      clear hf rd hk
      go_enter Try.func19, Try.ntmps19
      go_wp2_with fail
      refine (slices_Index vn names s _ (HS.out.below (by repeat' (first | exact Below.refl _ _ | exact Nat.le_refl _ | (refine Below.alloc ?_ ?_ _) | (refine Below.setCell ?_ ?_ _) | (refine Below.drew ?_) | (refine below_drewN ?_ _) | assumption | (simp; done) | (simp; omega))))).mono ?_
      rintro e w1 ⟨rfl, rfl⟩
      rw [P.out]
      go_wp2_with fail
      go_ret
      exact ⟨rfl, (by repeat' (first | exact Below.refl _ _ | exact Nat.le_refl _ | (refine Below.alloc ?_ ?_ _) | (refine Below.setCell ?_ ?_ _) | (refine Below.drew ?_) | (refine below_drewN ?_ _) | assumption | (simp; done) | (simp; omega)))⟩
set_option maxHeartbeats 1000000 in
set_option maxRecDepth 100000 in
theorem impl_work_not (names : List ByteArray) (values : List Int) (n : Int) (s : ByteArray) (A : Option Addr) (c : Nat) (x : Tm) (r : Nat) (hx : okT r x = true) (ih : VaC 19 names values x) (vn vi : Value) (w : World) (row : TmRow AnyB w A [x]) (hs : IsStrs w vn names) (hi : IsInts w vi values) (hv : ∀ z ∈ values, i64in z) :
    Calls Try.prog 19 #[.agg #[.int .i64 8, .int .i64 n, .string s, .slice A 1 c], vn, vi] w fun e w' => e = .returned (.int .i64 (valT names values (.mk 8 n s [x]))) ∧ Below w.heap.size w w' := by
  rw [valT_one]
  have IH := Lib.hid ih
  have HS := Lib.hid hs
  have HI := Lib.hid hi
  have HV := Lib.hid hv
  obtain ⟨b, off, k1, n1, s1, A1, m1, c1, rfl, _, d0, d1, d2, d3, ht⟩ := rd_term row (k := 0) (by simp)
  have T := Lib.hid ht
  simp only [Nat.zero_mul, Nat.add_zero] at d0 d1 d2 d3
  have hbl := cell_lt d0
  clear ht row hs hi hv ih
  go_enter Try.func19, Try.ntmps19
  go_wp2_with fail
  refine (IH.out r k1 n1 s1 A1 m1 c1 vn vi _ hx (T.out.belowA (by repeat' (first | exact Below.refl _ _ | exact Nat.le_refl _ | (refine Below.alloc ?_ ?_ _) | (refine Below.setCell ?_ ?_ _) | (refine Below.drew ?_) | (refine below_drewN ?_ _) | assumption | (simp; done) | (simp; omega)))) (HS.out.below (by repeat' (first | exact Below.refl _ _ | exact Nat.le_refl _ | (refine Below.alloc ?_ ?_ _) | (refine Below.setCell ?_ ?_ _) | (refine Below.drew ?_) | (refine below_drewN ?_ _) | assumption | (simp; done) | (simp; omega)))) (HI.out.below (by repeat' (first | exact Below.refl _ _ | exact Nat.le_refl _ | (refine Below.alloc ?_ ?_ _) | (refine Below.setCell ?_ ?_ _) | (refine Below.drew ?_) | (refine below_drewN ?_ _) | assumption | (simp; done) | (simp; omega)))) HV.out).mono ?_
  rintro e w1 ⟨rfl, b1⟩
  have B1 : Below w.heap.size w w1 := Below.trans (by repeat' (first | exact Below.refl _ _ | exact Nat.le_refl _ | (refine Below.alloc ?_ ?_ _) | (refine Below.setCell ?_ ?_ _) | (refine Below.drew ?_) | (refine below_drewN ?_ _) | assumption | (simp; done) | (simp; omega))) (b1.mono (by simp))
  have H1 := Lib.hid B1
  obtain ⟨hcell, hfree⟩ := old_cells b1
  simp only [World.size_alloc] at hcell hfree
  clear b1 B1
  go_wp2_with fail
  refine (impl_truth _ _).mono ?_
  rintro e w2 ⟨rfl, rfl⟩
  go_wp2_with fail
  go_ret
  exact ⟨rfl, H1.out⟩
theorem mul_le999 {a b : Int} (h1 : 0 ≤ a) (h2 : a ≤ 999) (h3 : 0 ≤ b) (h4 : b ≤ 999) : 0 ≤ a * b ∧ a * b ≤ 998001 := by
  have e1 := Int.mul_nonneg h1 h3
  have e2 := Int.mul_le_mul h2 h4 h3 (by decide : (0 : Int) ≤ 999)
  omega
theorem opK3 (a b : Int) : opK 3 a b = modK (a + b) := rfl
theorem opK4 (a b : Int) : opK 4 a b = modK (a - b) := rfl
theorem opK5 (a b : Int) : opK 5 a b = modK (a * b) := rfl
theorem opK6 (a b : Int) : opK 6 a b = yesK (decide (a < b)) := rfl
theorem opK7 (a b : Int) : opK 7 a b = yesK (a == b) := rfl
theorem opK9 (a b : Int) : opK 9 a b = yesK (a != 0 && b != 0) := rfl
set_option maxHeartbeats 2000000 in
set_option maxRecDepth 100000 in
theorem impl_work_two (names : List ByteArray) (values : List Int) (k n : Int) (s : ByteArray) (A : Option Addr) (c : Nat) (x y : Tm) (r : Nat) (hx : okT r x = true) (hy : okT r y = true) (ih : VaC 19 names values x) (ih' : VaC 19 names values y) (vn vi : Value) (w : World) (row : TmRow AnyB w A [x, y]) (hs : IsStrs w vn names) (hi : IsInts w vi values) (hv : ∀ z ∈ values, i64in z) (hk : k = 3 ∨ k = 4 ∨ k = 5 ∨ k = 6 ∨ k = 7 ∨ k = 9) :
    Calls Try.prog 19 #[.agg #[.int .i64 k, .int .i64 n, .string s, .slice A 2 c], vn, vi] w fun e w' => e = .returned (.int .i64 (valT names values (.mk k n s [x, y]))) ∧ Below w.heap.size w w' := by
  have IH := Lib.hid ih
  have IH' := Lib.hid ih'
  have HS := Lib.hid hs
  have HI := Lib.hid hi
  have HV := Lib.hid hv
  obtain ⟨b, off, k1, n1, s1, A1, m1, c1, rfl, _, d0, d1, d2, d3, ht⟩ := rd_term row (k := 0) (by simp)
  obtain ⟨b', off', k2, n2, s2, A2, m2, c2, q, _, e0, e1, e2, e3, ht'⟩ := rd_term row (k := 1) (by simp)
  injection q with q
  injection q with q1 q2
  subst q1 q2
  have T := Lib.hid ht
  have T' := Lib.hid ht'
  simp only [Nat.zero_mul, Nat.add_zero] at d0 d1 d2 d3
  simp only [Nat.one_mul, Nat.add_assoc, Nat.reduceAdd] at e0 e1 e2 e3
  have hbl := cell_lt d0
  have E := Lib.hid (And.intro e0 (And.intro e1 (And.intro e2 e3)))
  have VX := Lib.hid (valT_le names values x)
  have VY := Lib.hid (valT_le names values y)
  clear ht ht' row hs hi hv ih ih' e0 e1 e2 e3
  rcases hk with rfl | rfl | rfl | rfl | rfl | rfl
  all_goals
    rw [valT_two (by decide) (by decide)]
    go_enter Try.func19, Try.ntmps19
    go_wp2_with fail
    refine (IH.out r k1 n1 s1 A1 m1 c1 vn vi _ hx (T.out.belowA (by repeat' (first | exact Below.refl _ _ | exact Nat.le_refl _ | (refine Below.alloc ?_ ?_ _) | (refine Below.setCell ?_ ?_ _) | (refine Below.drew ?_) | (refine below_drewN ?_ _) | assumption | (simp; done) | (simp; omega)))) (HS.out.below (by repeat' (first | exact Below.refl _ _ | exact Nat.le_refl _ | (refine Below.alloc ?_ ?_ _) | (refine Below.setCell ?_ ?_ _) | (refine Below.drew ?_) | (refine below_drewN ?_ _) | assumption | (simp; done) | (simp; omega)))) (HI.out.below (by repeat' (first | exact Below.refl _ _ | exact Nat.le_refl _ | (refine Below.alloc ?_ ?_ _) | (refine Below.setCell ?_ ?_ _) | (refine Below.drew ?_) | (refine below_drewN ?_ _) | assumption | (simp; done) | (simp; omega)))) HV.out).mono ?_
    rintro e w1 ⟨rfl, b1⟩
    have B1 : Below w.heap.size w w1 := Below.trans (by repeat' (first | exact Below.refl _ _ | exact Nat.le_refl _ | (refine Below.alloc ?_ ?_ _) | (refine Below.setCell ?_ ?_ _) | (refine Below.drew ?_) | (refine below_drewN ?_ _) | assumption | (simp; done) | (simp; omega))) (b1.mono (by simp))
    have H1 := Lib.hid B1
    have f0 := cell_keep B1 E.out.1
    have f1 := cell_keep B1 E.out.2.1
    have f2 := cell_keep B1 E.out.2.2.1
    have f3 := cell_keep B1 E.out.2.2.2
    obtain ⟨hcell, hfree⟩ := old_cells b1
    simp only [World.size_alloc] at hcell hfree
    clear b1 B1 d0 d1 d2 d3
    go_wp2_with fail
    refine (IH'.out r k2 n2 s2 A2 m2 c2 vn vi _ hy (T'.out.belowA H1.out) (HS.out.below H1.out) (HI.out.below H1.out) HV.out).mono ?_
    rintro e w2 ⟨rfl, b2⟩
    have H2 := Lib.hid (below_then H1.out b2)
    have hz : w.heap.size < w1.heap.size := cell_lt (p := ⟨w.heap.size, 0, none⟩) ((hcell w.heap.size 0 (by omega)).trans (by simp; rfl))
    obtain ⟨hcell2, hfree2⟩ := old_cells b2
    clear b2 f0 f1 f2 f3
    generalize hva : valT names values x = va at *
    generalize hvb : valT names values y = vb at *
    have HA := Lib.hid hva
    have HB := Lib.hid hvb
    clear hva hvb
    obtain ⟨a1, a2⟩ := VX.out
    obtain ⟨a3, a4⟩ := VY.out
    obtain ⟨a5, a6⟩ := mul_le999 a1 a2 a3 a4
    cases z9 : (va != 0)
    all_goals
      go_wp2_with fail
      (first | refine (impl_rest _ (by constructor <;> omega) _).mono ?_ | refine (impl_truth _ _).mono ?_)
      rintro e w3 ⟨rfl, rfl⟩
      go_wp2_with fail
      go_ret
      exact ⟨ret_int (by rw [HA.out, HB.out]; first | rfl | (rw [opK9, z9]; rfl)), H2.out⟩
set_option maxHeartbeats 1000000 in
set_option maxRecDepth 100000 in
theorem spec_work_num (names : List ByteArray) (values : List Int) (n : Int) (s : ByteArray) (A : Option Addr) (m c : Nat) (kids : List Tm) (vn vi : Value) (w : World) (hn : i64in n) :
    Calls Try.prog 23 #[.agg #[.int .i64 1, .int .i64 n, .string s, .slice A m c], vn, vi] w fun e w' => e = .returned (.int .i64 (valT names values (.mk 1 n s kids))) ∧ Below w.heap.size w w' := by
  rw [valT_num]
  go_enter Try.func23, Try.ntmps23
  go_wp2_with fail
  refine (spec_l03Mod n hn _).mono ?_
  rintro e w1 ⟨rfl, rfl⟩
  go_wp2_with fail
  go_ret
  exact ⟨rfl, (by repeat' (first | exact Below.refl _ _ | exact Nat.le_refl _ | (refine Below.alloc ?_ ?_ _) | (refine Below.setCell ?_ ?_ _) | (refine Below.drew ?_) | (refine below_drewN ?_ _) | assumption | (simp; done) | (simp; omega)))⟩
set_option maxHeartbeats 1000000 in
set_option maxRecDepth 100000 in
theorem spec_work_var (names : List ByteArray) (values : List Int) (n : Int) (s : ByteArray) (A : Option Addr) (m c : Nat) (kids : List Tm) (vn vi : Value) (w : World) (hs : IsStrs w vn names) (hi : IsInts w vi values) (hv : ∀ z ∈ values, i64in z) :
    Calls Try.prog 23 #[.agg #[.int .i64 2, .int .i64 n, .string s, .slice A m c], vn, vi] w fun e w' => e = .returned (.int .i64 (valT names values (.mk 2 n s kids))) ∧ Below w.heap.size w w' := by
  rw [valT_var]
  obtain ⟨An, cn, rfl, hln, hcn, rdn⟩ := hs
  obtain ⟨Ai, ci, rfl, hli, hci, rdi⟩ := hi
  unfold maxLen at hcn hci
  have RN := Lib.hid rdn
  have RI := Lib.hid rdi
  have HV := Lib.hid hv
  clear rdn rdi hv
  go_enter Try.func23, Try.ntmps23
  go_wp2_with fail
  go_loopw [7] (fun i wr => ∃ j : Nat, j ≤ names.length ∧ i = .int .i64 j ∧ Below w.heap.size w wr ∧ wr.cell? ⟨w.heap.size, 2, none⟩ = some (.string s) ∧ Hid (∀ x ∈ names.take j, x ≠ s)) (fun i _ => names.length - (intOf i).toNat)
  case atStart => exact ⟨0, Nat.zero_le _, rfl, (by repeat' (first | exact Below.refl _ _ | exact Nat.le_refl _ | (refine Below.alloc ?_ ?_ _) | (refine Below.setCell ?_ ?_ _) | (refine Below.drew ?_) | (refine below_drewN ?_ _) | assumption | (simp; done) | (simp; omega))), by simp, Lib.hid (by simp)⟩
  case round =>
    obtain ⟨j, hj, rfl, hb, x2, HT⟩ := hrel
    have HB := Lib.hid hb
    clear hb
    by_cases hlt : j < names.length
    · obtain ⟨b, off, rfl, hcell⟩ := rd_str (RN.out.below HB.out) hlt
      have h0k : (0 : Int) ≤ (j : Int) := by omega
      have h1k : (j : Int) < (names.length : Int) := by omega
      have q := str_eq names[j] s
      by_cases e : names[j] = s
      · have F := Lib.hid (find_at HT.out hlt e)
        rw [decide_eq_true e] at q
        clear e
        by_cases hk : j < values.length
        · obtain ⟨b', off', rfl, hcell'⟩ := rd_int (RI.out.below HB.out) hk
          go_wp2_with fail
          go_quiet (fail)
          go_wp2_with fail
          refine (spec_l03Mod _ (HV.out _ (List.getElem_mem hk)) _).mono ?_
          rintro e w1 ⟨rfl, rfl⟩
          go_wp2_with fail
          go_ret
          exact ⟨ret_int (varK_at F.out hk).symm, HB.out.trans ((Qt.of_drewN _ _).below.mono HB.out.size)⟩
        · go_wp2_with fail
          go_quiet (fail)
          go_wp2_with fail
          go_ret
          exact ⟨ret_int (varK_over F.out (by omega)).symm, HB.out.trans ((Qt.of_drewN _ _).below.mono HB.out.size)⟩
      · have HE := Lib.hid e
        rw [decide_no e] at q
        clear e
        go_wp2_with fail
        go_quiet (fail)
        go_wp2_with fail
        go_roundw
        case rel => exact ⟨j + 1, by omega, by go_num, HB.out.trans ((Qt.of_drewN _ _).below.mono HB.out.size), x2, Lib.hid (take_all_succ HT.out hlt HE.out)⟩
        case measure => simp [intOf]; omega
    · go_wp2_with fail
      go_ret
      refine ⟨ret_int (varK_no (find_no ?_)).symm, HB.out⟩
      have := HT.out
      rwa [List.take_of_length_le (by omega)] at this
set_option maxHeartbeats 1000000 in
set_option maxRecDepth 100000 in
theorem spec_work_not (names : List ByteArray) (values : List Int) (n : Int) (s : ByteArray) (A : Option Addr) (c : Nat) (x : Tm) (r : Nat) (hx : okT r x = true) (ih : VaC 23 names values x) (vn vi : Value) (w : World) (row : TmRow AnyB w A [x]) (hs : IsStrs w vn names) (hi : IsInts w vi values) (hv : ∀ z ∈ values, i64in z) :
    Calls Try.prog 23 #[.agg #[.int .i64 8, .int .i64 n, .string s, .slice A 1 c], vn, vi] w fun e w' => e = .returned (.int .i64 (valT names values (.mk 8 n s [x]))) ∧ Below w.heap.size w w' := by
  rw [valT_one]
  have IH := Lib.hid ih
  have HS := Lib.hid hs
  have HI := Lib.hid hi
  have HV := Lib.hid hv
  obtain ⟨b, off, k1, n1, s1, A1, m1, c1, rfl, _, d0, d1, d2, d3, ht⟩ := rd_term row (k := 0) (by simp)
  have T := Lib.hid ht
  simp only [Nat.zero_mul, Nat.add_zero] at d0 d1 d2 d3
  have hbl := cell_lt d0
  clear ht row hs hi hv ih
  go_enter Try.func23, Try.ntmps23
  go_wp2_with fail
  refine (IH.out r k1 n1 s1 A1 m1 c1 vn vi _ hx (T.out.belowA (by repeat' (first | exact Below.refl _ _ | exact Nat.le_refl _ | (refine Below.alloc ?_ ?_ _) | (refine Below.setCell ?_ ?_ _) | (refine Below.drew ?_) | (refine below_drewN ?_ _) | assumption | (simp; done) | (simp; omega)))) (HS.out.below (by repeat' (first | exact Below.refl _ _ | exact Nat.le_refl _ | (refine Below.alloc ?_ ?_ _) | (refine Below.setCell ?_ ?_ _) | (refine Below.drew ?_) | (refine below_drewN ?_ _) | assumption | (simp; done) | (simp; omega)))) (HI.out.below (by repeat' (first | exact Below.refl _ _ | exact Nat.le_refl _ | (refine Below.alloc ?_ ?_ _) | (refine Below.setCell ?_ ?_ _) | (refine Below.drew ?_) | (refine below_drewN ?_ _) | assumption | (simp; done) | (simp; omega)))) HV.out).mono ?_
  rintro e w1 ⟨rfl, b1⟩
  have B1 : Below w.heap.size w w1 := Below.trans (by repeat' (first | exact Below.refl _ _ | exact Nat.le_refl _ | (refine Below.alloc ?_ ?_ _) | (refine Below.setCell ?_ ?_ _) | (refine Below.drew ?_) | (refine below_drewN ?_ _) | assumption | (simp; done) | (simp; omega))) (b1.mono (by simp))
  have H1 := Lib.hid B1
  obtain ⟨hcell, hfree⟩ := old_cells b1
  simp only [World.size_alloc] at hcell hfree
  clear b1 B1
  go_wp2_with fail
  refine (spec_l03Yes _ _).mono ?_
  rintro e w2 ⟨rfl, rfl⟩
  go_wp2_with fail
  go_ret
  exact ⟨rfl, H1.out⟩
set_option maxHeartbeats 2000000 in
set_option maxRecDepth 100000 in
theorem spec_work_two (names : List ByteArray) (values : List Int) (k n : Int) (s : ByteArray) (A : Option Addr) (c : Nat) (x y : Tm) (r : Nat) (hx : okT r x = true) (hy : okT r y = true) (ih : VaC 23 names values x) (ih' : VaC 23 names values y) (vn vi : Value) (w : World) (row : TmRow AnyB w A [x, y]) (hs : IsStrs w vn names) (hi : IsInts w vi values) (hv : ∀ z ∈ values, i64in z) (hk : k = 3 ∨ k = 4 ∨ k = 5 ∨ k = 6 ∨ k = 7 ∨ k = 9) :
    Calls Try.prog 23 #[.agg #[.int .i64 k, .int .i64 n, .string s, .slice A 2 c], vn, vi] w fun e w' => e = .returned (.int .i64 (valT names values (.mk k n s [x, y]))) ∧ Below w.heap.size w w' := by
  have IH := Lib.hid ih
  have IH' := Lib.hid ih'
  have HS := Lib.hid hs
  have HI := Lib.hid hi
  have HV := Lib.hid hv
  obtain ⟨b, off, k1, n1, s1, A1, m1, c1, rfl, _, d0, d1, d2, d3, ht⟩ := rd_term row (k := 0) (by simp)
  obtain ⟨b', off', k2, n2, s2, A2, m2, c2, q, _, e0, e1, e2, e3, ht'⟩ := rd_term row (k := 1) (by simp)
  injection q with q
  injection q with q1 q2
  subst q1 q2
  have T := Lib.hid ht
  have T' := Lib.hid ht'
  simp only [Nat.zero_mul, Nat.add_zero] at d0 d1 d2 d3
  simp only [Nat.one_mul, Nat.add_assoc, Nat.reduceAdd] at e0 e1 e2 e3
  have hbl := cell_lt d0
  have E := Lib.hid (And.intro e0 (And.intro e1 (And.intro e2 e3)))
  have VX := Lib.hid (valT_le names values x)
  have VY := Lib.hid (valT_le names values y)
  clear ht ht' row hs hi hv ih ih' e0 e1 e2 e3
  rcases hk with rfl | rfl | rfl | rfl | rfl | rfl
  all_goals
    rw [valT_two (by decide) (by decide)]
    go_enter Try.func23, Try.ntmps23
    go_wp2_with fail
    refine (IH.out r k1 n1 s1 A1 m1 c1 vn vi _ hx (T.out.belowA (by repeat' (first | exact Below.refl _ _ | exact Nat.le_refl _ | (refine Below.alloc ?_ ?_ _) | (refine Below.setCell ?_ ?_ _) | (refine Below.drew ?_) | (refine below_drewN ?_ _) | assumption | (simp; done) | (simp; omega)))) (HS.out.below (by repeat' (first | exact Below.refl _ _ | exact Nat.le_refl _ | (refine Below.alloc ?_ ?_ _) | (refine Below.setCell ?_ ?_ _) | (refine Below.drew ?_) | (refine below_drewN ?_ _) | assumption | (simp; done) | (simp; omega)))) (HI.out.below (by repeat' (first | exact Below.refl _ _ | exact Nat.le_refl _ | (refine Below.alloc ?_ ?_ _) | (refine Below.setCell ?_ ?_ _) | (refine Below.drew ?_) | (refine below_drewN ?_ _) | assumption | (simp; done) | (simp; omega)))) HV.out).mono ?_
    rintro e w1 ⟨rfl, b1⟩
    have B1 : Below w.heap.size w w1 := Below.trans (by repeat' (first | exact Below.refl _ _ | exact Nat.le_refl _ | (refine Below.alloc ?_ ?_ _) | (refine Below.setCell ?_ ?_ _) | (refine Below.drew ?_) | (refine below_drewN ?_ _) | assumption | (simp; done) | (simp; omega))) (b1.mono (by simp))
    have H1 := Lib.hid B1
    have f0 := cell_keep B1 E.out.1
    have f1 := cell_keep B1 E.out.2.1
    have f2 := cell_keep B1 E.out.2.2.1
    have f3 := cell_keep B1 E.out.2.2.2
    obtain ⟨hcell, hfree⟩ := old_cells b1
    simp only [World.size_alloc] at hcell hfree
    clear b1 B1 d0 d1 d2 d3
    go_wp2_with fail
    refine (IH'.out r k2 n2 s2 A2 m2 c2 vn vi _ hy (T'.out.belowA H1.out) (HS.out.below H1.out) (HI.out.below H1.out) HV.out).mono ?_
    rintro e w2 ⟨rfl, b2⟩
    have H2 := Lib.hid (below_then H1.out b2)
    have hz : w.heap.size < w1.heap.size := cell_lt (p := ⟨w.heap.size, 0, none⟩) ((hcell w.heap.size 0 (by omega)).trans (by simp; rfl))
    obtain ⟨hcell2, hfree2⟩ := old_cells b2
    clear b2 f0 f1 f2 f3
    generalize hva : valT names values x = va at *
    generalize hvb : valT names values y = vb at *
    have HA := Lib.hid hva
    have HB := Lib.hid hvb
    clear hva hvb
    obtain ⟨a1, a2⟩ := VX.out
    obtain ⟨a3, a4⟩ := VY.out
    obtain ⟨a5, a6⟩ := mul_le999 a1 a2 a3 a4
    cases z9 : (va != 0)
    all_goals
      go_wp2_with fail
      (first | refine (spec_l03Mod _ (by constructor <;> omega) _).mono ?_ | refine (spec_l03Yes _ _).mono ?_)
      rintro e w3 ⟨rfl, rfl⟩
      go_wp2_with fail
      go_ret
      exact ⟨ret_int (by rw [HA.out, HB.out]; first | rfl | (rw [opK9, z9]; rfl)), H2.out⟩
theorem impl_workOut (names : List ByteArray) (values : List Int) (t : Tm) : VaC 19 names values t := by
  induction hN : nodes t using Nat.strongRecOn generalizing t with
  | ind N ih =>
    intro room k n s A m c vn vi w hok ht hs hi hv
    obtain ⟨kids, rfl, rfl, hl, hc, _, hn, _, row⟩ := ht.inv
    have IH : ∀ x ∈ kids, VaC 19 names values x := fun x hx => ih (nodes x) (by rw [← hN]; exact kid_lt hx) x rfl
    by_cases g1 : k = 1
    · subst g1; exact impl_work_num names values n s A _ c kids vn vi w hn
    by_cases g2 : k = 2
    · subst g2; exact impl_work_var names values n s A _ c kids vn vi w hs hi hv
    obtain ⟨r, rfl, ⟨rfl, x, rfl, hx⟩ | ⟨hk, x, y, rfl, hx, hy⟩⟩ := okT_kids g1 g2 hok
    · exact impl_work_not names values n s A c x r hx (IH x (by simp)) vn vi w row hs hi hv
    · exact impl_work_two names values k n s A c x y r hx hy (IH x (by simp)) (IH y (by simp)) vn vi w row hs hi hv hk
theorem spec_workOut (names : List ByteArray) (values : List Int) (t : Tm) : VaC 23 names values t := by
  induction hN : nodes t using Nat.strongRecOn generalizing t with
  | ind N ih =>
    intro room k n s A m c vn vi w hok ht hs hi hv
    obtain ⟨kids, rfl, rfl, hl, hc, _, hn, _, row⟩ := ht.inv
    have IH : ∀ x ∈ kids, VaC 23 names values x := fun x hx => ih (nodes x) (by rw [← hN]; exact kid_lt hx) x rfl
    by_cases g1 : k = 1
    · subst g1; exact spec_work_num names values n s A _ c kids vn vi w hn
    by_cases g2 : k = 2
    · subst g2; exact spec_work_var names values n s A _ c kids vn vi w hs hi hv
    obtain ⟨r, rfl, ⟨rfl, x, rfl, hx⟩ | ⟨hk, x, y, rfl, hx, hy⟩⟩ := okT_kids g1 g2 hok
    · exact spec_work_not names values n s A c x r hx (IH x (by simp)) vn vi w row hs hi hv
    · exact spec_work_two names values k n s A c x y r hx hy (IH x (by simp)) (IH y (by simp)) vn vi w row hs hi hv hk
end Go.Proofs.Ytnlinlgmbpdfdaa
