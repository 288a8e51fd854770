/- Several texts in one: DecLaws, TxtImpl, TxtLaw. -/
import Derived.Test.YtefcdpkficojgaaDoorKb30
import Derived.Test.YtefcdpkficojgaaDoorKb12
import Derived.Test.YtefcdpkficojgaaDoorKb17
import Derived.Deep.CutRange
import Derived.Test.YtefcdpkficojgaaDoorKb28
namespace Go.Proofs.YtefcdpkficojgaaDoor
open Go.RowKit
set_option linter.unusedVariables false


/-- the library's table of powers lies as its initialiser lays it -/
def TabW (w : World) : Prop := Lib.TabIs Tryd.prog w "internal/strconv.uint64pow10" .u64 Lib.pow10Tab
theorem TabW.below {w w' : World} (h : TabW w) (hb : Below w.heap.size w w') : TabW w' := by
  unfold TabW Lib.TabIs World.var? at *
  cases hg : Tryd.prog.globalNamed "internal/strconv.uint64pow10" with
  | none => simp [hg] at h
  | some g =>
    simp only [hg, Option.bind_some] at h ⊢
    have hlt : g < w.heap.size := by
      rcases Nat.lt_or_ge g w.heap.size with h1 | h1
      · exact h1
      · rw [Array.getElem?_eq_none h1] at h; simp at h
    rw [hb.block g hlt]
    exact h

theorem impl_termSign (k : Int) (hk : k = 3 ∨ k = 4 ∨ k = 5 ∨ k = 6 ∨ k = 7 ∨ k = 9) (w : World) : Calls Tryd.prog 169 #[.int .i64 k] w fun e w' => e = .returned (.string (signB k)) ∧ w = w' := by
  rcases hk with rfl | rfl | rfl | rfl | rfl | rfl
  all_goals
    go_enter Tryd.func169, Tryd.ntmps169
    go_wp2_with fail
    go_ret
    exact ⟨rfl, rfl⟩
abbrev TxC (t : Tm) : Prop := ∀ (room : Nat) (k n : Int) (s : ByteArray) (A : Option Addr) (m c : Nat) (w : World), okT room t = true → room ≤ 6 → TmIs AnyB w [.int .i64 k, .int .i64 n, .string s, .slice A m c] t → TabW w →
  Calls Tryd.prog 102 #[.agg #[.int .i64 k, .int .i64 n, .string s, .slice A m c]] w fun e w' => e = .returned (.string ⟨(txtT t).toArray⟩) ∧ Below w.heap.size w w'
set_option maxHeartbeats 800000 in
theorem impl_text_leaf (room : Nat) (k n : Int) (s : ByteArray) (A : Option Addr) (m c : Nat) (kids : List Tm) (w : World) (hk : k = 1 ∨ k = 2) (hok : okT room (.mk k n s kids) = true) (tab : TabW w) :
    Calls Tryd.prog 102 #[.agg #[.int .i64 k, .int .i64 n, .string s, .slice A m c]] w fun e w' => e = .returned (.string ⟨(txtT (.mk k n s kids)).toArray⟩) ∧ Below w.heap.size w w' := by
  rcases hk with rfl | rfl
  · rw [txtT_num]
    obtain ⟨h0, h1⟩ := okT_num_bd hok
    have TB := Lib.hid tab
    clear tab hok
    go_enter Tryd.func102, Tryd.ntmps102
    go_wp2_with fail
    refine (impl_Decimal n (by omega) (by omega) _ (TB.out.below (by repeat' (first | exact Below.refl _ _ | exact Nat.le_refl _ | (refine Below.alloc ?_ ?_ _) | (refine Below.setCell ?_ ?_ _) | (refine Below.drew ?_) | (refine below_drewN ?_ _) | assumption | (simp; done) | (simp; omega))))).mono ?_
    rintro e w1 ⟨rfl, b1⟩
    have B1 : Hid (Below w.heap.size w w1) := Lib.hid (Below.trans (by repeat' (first | exact Below.refl _ _ | exact Nat.le_refl _ | (refine Below.alloc ?_ ?_ _) | (refine Below.setCell ?_ ?_ _) | (refine Below.drew ?_) | (refine below_drewN ?_ _) | assumption | (simp; done) | (simp; omega))) (b1.mono (by simp)))
    clear b1
    go_wp2_with fail
    go_ret
    exact ⟨rfl, B1.out⟩
  · rw [txtT_var]
    clear tab hok
    go_enter Tryd.func102, Tryd.ntmps102
    go_wp2_with fail
    go_ret
    exact ⟨ret_str (by simp), (by repeat' (first | exact Below.refl _ _ | exact Nat.le_refl _ | (refine Below.alloc ?_ ?_ _) | (refine Below.setCell ?_ ?_ _) | (refine Below.drew ?_) | (refine below_drewN ?_ _) | assumption | (simp; done) | (simp; omega)))⟩
set_option maxHeartbeats 800000 in
theorem impl_text_not (r : Nat) (hr : r ≤ 5) (n : Int) (s : ByteArray) (A : Option Addr) (c : Nat) (x : Tm) (ih : TxC x) (hx : okT r x = true) (w : World) (row : TmRow AnyB w A [x]) (tab : TabW w) :
    Calls Tryd.prog 102 #[.agg #[.int .i64 8, .int .i64 n, .string s, .slice A 1 c]] w fun e w' => e = .returned (.string ⟨(txtT (.mk 8 n s [x])).toArray⟩) ∧ Below w.heap.size w w' := by
  obtain ⟨F, hF⟩ : ∃ F : ByteArray, ⟨(txtT (.mk 8 n s [x])).toArray⟩ = F := ⟨_, rfl⟩
  have FS : Hid ((⟨#[40, 110, 111, 116, 32]⟩ : ByteArray) ++ ⟨(txtT x).toArray⟩ ++ ⟨#[41]⟩ = F) := Lib.hid (by rw [← hF, txtT_one]; apply str_ext; simp)
  rw [hF]
  clear hF
  obtain ⟨b, off, k0, n0, s0, A0, m0, c0, rfl, _, e0, e1, e2, e3, t0⟩ := rd_term row (k := 0) (by simp)
  have T0 : Hid (TmIs AnyB w [.int .i64 k0, .int .i64 n0, .string s0, .slice A0 m0 c0] x) := Lib.hid t0
  have IH := Lib.hid ih
  have TB := Lib.hid tab
  have HX := Lib.hid hx
  have hl := txt_len r x hx
  have hp : 2 ^ r ≤ 2 ^ 5 := Nat.pow_le_pow_right (by decide) hr
  have hl2 : (txtT x).length ≤ 1000 := by omega
  simp only [Nat.zero_mul, Nat.add_zero] at e0 e1 e2 e3
  have WA := Below.alloc (Below.refl w.heap.size w) (Nat.le_refl _) (.cells #[.int .i64 8, .int .i64 n, .string s, .slice (some ⟨b, off, none⟩) 1 c] 24)
  replace e0 := cell_keep WA e0
  replace e1 := cell_keep WA e1
  replace e2 := cell_keep WA e2
  replace e3 := cell_keep WA e3
  clear row t0 ih tab hx hp hl WA
  go_enter Tryd.func102, Tryd.ntmps102
  go_wp2_with fail
  refine (IH.out r _ _ _ _ _ _ _ HX.out (by omega) (T0.out.belowA (by repeat' (first | exact Below.refl _ _ | exact Nat.le_refl _ | (refine Below.alloc ?_ ?_ _) | (refine Below.setCell ?_ ?_ _) | (refine Below.drew ?_) | (refine below_drewN ?_ _) | assumption | (simp; done) | (simp; omega)))) (TB.out.below (by repeat' (first | exact Below.refl _ _ | exact Nat.le_refl _ | (refine Below.alloc ?_ ?_ _) | (refine Below.setCell ?_ ?_ _) | (refine Below.drew ?_) | (refine below_drewN ?_ _) | assumption | (simp; done) | (simp; omega))))).mono ?_
  rintro e w1 ⟨rfl, b1⟩
  have B1 : Hid (Below w.heap.size w w1) := Lib.hid (Below.trans (by repeat' (first | exact Below.refl _ _ | exact Nat.le_refl _ | (refine Below.alloc ?_ ?_ _) | (refine Below.setCell ?_ ?_ _) | (refine Below.drew ?_) | (refine below_drewN ?_ _) | assumption | (simp; done) | (simp; omega))) (b1.mono (by simp)))
  clear b1 e0 e1 e2 e3
  generalize txtT x = l at *
  go_wp2_with fail
  go_ret
  exact ⟨ret_str FS.out, B1.out⟩
set_option maxHeartbeats 1600000 in
set_option maxRecDepth 100000 in
theorem impl_text_two (r : Nat) (hr : r ≤ 5) (k n : Int) (hk : k = 3 ∨ k = 4 ∨ k = 5 ∨ k = 6 ∨ k = 7 ∨ k = 9) (s : ByteArray) (A : Option Addr) (c : Nat) (x y : Tm) (ih : TxC x) (ih' : TxC y) (hx : okT r x = true) (hy : okT r y = true) (w : World) (row : TmRow AnyB w A [x, y]) (tab : TabW w) :
    Calls Tryd.prog 102 #[.agg #[.int .i64 k, .int .i64 n, .string s, .slice A 2 c]] w fun e w' => e = .returned (.string ⟨(txtT (.mk k n s [x, y])).toArray⟩) ∧ Below w.heap.size w w' := by
  have hk1 : k ≠ 1 ∧ k ≠ 2 ∧ k ≠ 8 := by omega
  obtain ⟨h1, h2, h8⟩ := hk1
  obtain ⟨F, hF⟩ : ∃ F : ByteArray, ⟨(txtT (.mk k n s [x, y])).toArray⟩ = F := ⟨_, rfl⟩
  have FS : Hid ((⟨#[40]⟩ : ByteArray) ++ ⟨(txtT x).toArray⟩ ++ ⟨#[32]⟩ ++ signB k ++ ⟨#[32]⟩ ++ ⟨(txtT y).toArray⟩ ++ ⟨#[41]⟩ = F) := Lib.hid (by rw [← hF, txtT_two h1 h2 h8]; apply str_ext; unfold signK; simp)
  rw [hF]
  clear hF
  obtain ⟨b, off, k0, n0, s0, A0, m0, c0, rfl, _, e0, e1, e2, e3, t0⟩ := rd_term row (k := 0) (by simp)
  obtain ⟨b', off', k1, n1, s1, A1, m1, c1, eA, _, g0, g1, g2, g3, t1⟩ := rd_term row (k := 1) (by simp)
  injection eA with eA
  injection eA with eA1 eA2
  subst eA1 eA2
  have T0 : Hid (TmIs AnyB w [.int .i64 k0, .int .i64 n0, .string s0, .slice A0 m0 c0] x) := Lib.hid t0
  have T1 : Hid (TmIs AnyB w [.int .i64 k1, .int .i64 n1, .string s1, .slice A1 m1 c1] y) := Lib.hid t1
  have IH := Lib.hid ih
  have IH' := Lib.hid ih'
  have TB := Lib.hid tab
  have HX := Lib.hid hx
  have HY := Lib.hid hy
  have hlx := txt_len r x hx
  have hly := txt_len r y hy
  have hp : 2 ^ r ≤ 2 ^ 5 := Nat.pow_le_pow_right (by decide) hr
  have hl2 : (txtT x).length ≤ 1000 := by omega
  have hl3 : (txtT y).length ≤ 1000 := by omega
  have hsg : (signB k).size ≤ 3 := by have := signK_len k; unfold signK at this; simpa using this
  have HK := Lib.hid hk
  have q1 : (k == 1) = false := beq_eq_false_iff_ne.2 h1
  have q2 : (k == 2) = false := beq_eq_false_iff_ne.2 h2
  have q8 : (k == 8) = false := beq_eq_false_iff_ne.2 h8
  simp only [Nat.zero_mul, Nat.add_zero] at e0 e1 e2 e3
  simp only [Nat.one_mul, Nat.add_assoc, Nat.reduceAdd] at g0 g1 g2 g3
  clear row t0 t1 ih ih' tab hx hy hp hlx hly hk h1 h2 h8
  go_enter Tryd.func102, Tryd.ntmps102
  go_upto_region 8 with fail
  have WA := Below.alloc (Below.refl w.heap.size w) (Nat.le_refl _) (.cells #[.int .i64 k, .int .i64 n, .string s, .slice (some ⟨b, off, none⟩) 2 c] 24)
  replace e0 := cell_keep WA e0
  replace e1 := cell_keep WA e1
  replace e2 := cell_keep WA e2
  replace e3 := cell_keep WA e3
  replace g0 := cell_keep WA g0
  replace g1 := cell_keep WA g1
  replace g2 := cell_keep WA g2
  replace g3 := cell_keep WA g3
  have T0A := Lib.hid (T0.out.belowA WA)
  have T1A := Lib.hid (T1.out.belowA WA)
  have TBA := Lib.hid (TB.out.below WA)
  have HW := Lib.hid WA
  obtain ⟨x0, x1, x2, x3⟩ : Box4 (w.alloc (.cells #[.int .i64 k, .int .i64 n, .string s, .slice (some ⟨b, off, none⟩) 2 c] 24)) w.heap.size (vt k n s (some ⟨b, off, none⟩) 2 c) := Box4.lit rfl
  simp only [vt] at x0 x1 x2 x3
  clear WA T0 T1 TB
  generalize w.alloc (.cells #[.int .i64 k, .int .i64 n, .string s, .slice (some ⟨b, off, none⟩) 2 c] 24) = w1 at *
  refine wp_region_later (by kernel_rfl) (by kernel_rfl) ?_
  intro gw hgw hcw
  have HG := Lib.hid hgw
  have HC := Lib.hid hcw
  clear hgw hcw
  have p0 : ∀ n', (gw n').cell? ⟨w.heap.size, 0, none⟩ = some (.int .i64 k) := fun n' => cell_keep (HG.out n') x0
  have p3 : ∀ n', (gw n').cell? ⟨w.heap.size, 3, none⟩ = some (.slice (some ⟨b, off, none⟩) 2 c) := fun n' => cell_keep (HG.out n') x3
  have f0 : ∀ n', (gw n').cell? ⟨b, off, none⟩ = some (.int .i64 k0) := fun n' => cell_keep (HG.out n') e0
  have f1 : ∀ n', (gw n').cell? ⟨b, off + 1, none⟩ = some (.int .i64 n0) := fun n' => cell_keep (HG.out n') e1
  have f2 : ∀ n', (gw n').cell? ⟨b, off + 2, none⟩ = some (.string s0) := fun n' => cell_keep (HG.out n') e2
  have f3 : ∀ n', (gw n').cell? ⟨b, off + 3, none⟩ = some (.slice A0 m0 c0) := fun n' => cell_keep (HG.out n') e3
  have r0 : ∀ n', (gw n').cell? ⟨b, off + 4, none⟩ = some (.int .i64 k1) := fun n' => cell_keep (HG.out n') g0
  have r1 : ∀ n', (gw n').cell? ⟨b, off + 5, none⟩ = some (.int .i64 n1) := fun n' => cell_keep (HG.out n') g1
  have r2 : ∀ n', (gw n').cell? ⟨b, off + 6, none⟩ = some (.string s1) := fun n' => cell_keep (HG.out n') g2
  have r3 : ∀ n', (gw n').cell? ⟨b, off + 7, none⟩ = some (.slice A1 m1 c1) := fun n' => cell_keep (HG.out n') g3
  have QX := Lib.hid (fun m => IH.out r k0 n0 s0 A0 m0 c0 (gw m) HX.out (by omega) (T0A.out.belowA (HG.out m)) (TBA.out.below (HG.out m)))
  have QY := Lib.hid (fun m => IH'.out r k1 n1 s1 A1 m1 c1 (gw m) HY.out (by omega) (T1A.out.belowA (HG.out m)) (TBA.out.below (HG.out m)))
  have QS := Lib.hid (fun m => impl_termSign k HK.out (gw m))
  clear x0 x1 x2 x3 e0 e1 e2 e3 g0 g1 g2 g3 T0A T1A TBA IH IH'
  generalize txtT x = X at *
  generalize txtT y = Y at *
  generalize hsb : signB k = sg at *
  repeat (go_big_quiet_step ((first | (go_at_call 102; with_reducible exact later_of HC (QX.out _)) | (go_at_call 102; with_reducible exact later_of HC (QY.out _)) | (go_at_call 169; with_reducible exact later_same (QS.out _)))))
  refine wpQuiet_nil ?_
  intro _ hw'
  obtain ⟨nq, hw''⟩ := hw'
  subst hw''
  clear p0 p3 f0 f1 f2 f3 r0 r1 r2 r3
  go_wp2_with fail
  go_ret
  exact ⟨ret_str FS.out, below_then HW.out (HG.out _)⟩

theorem impl_textOfTerm (t : Tm) : TxC t := by
  induction hN : nodes t using Nat.strongRecOn generalizing t with
  | ind N ih =>
    intro room k n s A m c w hok hr ht tab
    obtain ⟨kids, rfl, rfl, hl, hc, _, _, _, row⟩ := ht.inv
    by_cases h1 : k = 1
    · exact impl_text_leaf room k n s A _ c kids w (.inl h1) hok tab
    by_cases h2 : k = 2
    · exact impl_text_leaf room k n s A _ c kids w (.inr h2) hok tab
    obtain ⟨r, rfl, ⟨rfl, x, rfl, hx⟩ | ⟨hk, x, y, rfl, hx, hy⟩⟩ := okT_kids h1 h2 hok
    · exact impl_text_not r (by omega) n s A c x (ih (nodes x) (by rw [← hN]; exact kid_lt (by simp)) x rfl) hx w row tab
    · exact impl_text_two r (by omega) k n hk s A c x y (ih (nodes x) (by rw [← hN]; exact kid_lt (by simp)) x rfl) (ih (nodes y) (by rw [← hN]; exact kid_lt (by simp)) y rfl) hx hy w row tab
set_option maxHeartbeats 400000 in
theorem impl_TermText (t : Tm) (k n : Int) (s : ByteArray) (A : Option Addr) (m c : Nat) (w : World) (ht : TmIs AnyB w [.int .i64 k, .int .i64 n, .string s, .slice A m c] t) (tab : TabW w) :
    Calls Tryd.prog 41 #[.agg #[.int .i64 k, .int .i64 n, .string s, .slice A m c]] w fun e w' => e = .returned (.string ⟨(txtR t).toArray⟩) ∧ Below w.heap.size w w' := by
  have HT := Lib.hid ht
  have TB := Lib.hid tab
  clear ht tab
  cases h : okT 6 t with
  | false =>
    have FR := Lib.hid (txtR_no h)
    have OK := Lib.hid h
    clear h
    go_enter Tryd.func41, Tryd.ntmps41
    go_wp2_with fail
    refine (impl_TermOk t k n s A m c _ (HT.out.belowA (by repeat' (first | exact Below.refl _ _ | exact Nat.le_refl _ | (refine Below.alloc ?_ ?_ _) | (refine Below.setCell ?_ ?_ _) | (refine Below.drew ?_) | (refine below_drewN ?_ _) | assumption | (simp; done) | (simp; omega))))).mono ?_
    rintro e w1 ⟨rfl, b1⟩
    have B1 : Hid (Below w.heap.size w w1) := Lib.hid (Below.trans (by repeat' (first | exact Below.refl _ _ | exact Nat.le_refl _ | (refine Below.alloc ?_ ?_ _) | (refine Below.setCell ?_ ?_ _) | (refine Below.drew ?_) | (refine below_drewN ?_ _) | assumption | (simp; done) | (simp; omega))) (b1.mono (by simp)))
    rw [OK.out]
    clear b1
    go_wp2_with fail
    go_ret
    exact ⟨by rw [FR.out]; rfl, B1.out⟩
  | true =>
    have FR := Lib.hid (txtR_yes h)
    have OK := Lib.hid h
    clear h
    go_enter Tryd.func41, Tryd.ntmps41
    go_wp2_with fail
    refine (impl_TermOk t k n s A m c _ (HT.out.belowA (by repeat' (first | exact Below.refl _ _ | exact Nat.le_refl _ | (refine Below.alloc ?_ ?_ _) | (refine Below.setCell ?_ ?_ _) | (refine Below.drew ?_) | (refine below_drewN ?_ _) | assumption | (simp; done) | (simp; omega))))).mono ?_
    rintro e w1 ⟨rfl, b1⟩
    have B1 : Hid (Below w.heap.size w w1) := Lib.hid (Below.trans (by repeat' (first | exact Below.refl _ _ | exact Nat.le_refl _ | (refine Below.alloc ?_ ?_ _) | (refine Below.setCell ?_ ?_ _) | (refine Below.drew ?_) | (refine below_drewN ?_ _) | assumption | (simp; done) | (simp; omega))) (b1.mono (by simp)))
    have X1 : Box4 w1 w.heap.size (vt k n s A m c) := Box4.below (Box4.lit rfl) b1
    obtain ⟨p0, p1, p2, p3⟩ := X1
    simp only [vt] at p0 p1 p2 p3
    rw [OK.out]
    clear b1
    go_wp2_with fail
    refine (impl_textOfTerm t 6 k n s A m c _ OK.out (by omega) (HT.out.belowA B1.out) (TB.out.below B1.out)).mono ?_
    rintro e w2 ⟨rfl, b2⟩
    have B2 := Lib.hid (below_then B1.out b2)
    clear b2
    generalize hX : txtT t = X at *
    go_wp2_with fail
    go_ret
    exact ⟨by rw [FR.out]; rfl, B2.out⟩
end Go.Proofs.YtefcdpkficojgaaDoor
