/- Lemmas for the row. -/
import Derived.Test.YtnmblfonmfjoeaaGreatDoorKc41
namespace Go.Proofs.YtnmblfonmfjoeaaGreatDoor
open Go.RowKit
set_option maxHeartbeats 12800000
set_option maxRecDepth 100000
set_option linter.unusedVariables false
def TabW (w : World) : Prop := Lib.TabIs Tryz.prog w "internal/strconv.uint64pow10" .u64 Lib.pow10Tab
theorem TabW.below {w w' : World} (h : TabW w) (hb : Below w.heap.size w w') : TabW w' := by
 unfold TabW Lib.TabIs World.var? at *
 cases hg : Tryz.prog.globalNamed "internal/strconv.uint64pow10" with
 | none => simp [hg] at h
 | some g =>
  simp only [hg, Option.bind_some] at h ⊢
  have hlt : g < w.heap.size := by
   rcases Nat.lt_or_ge g w.heap.size with h1 | h1
   ·exact h1
   ·rw [Array.getElem?_eq_none h1] at h; simp at h
  rw [hb.block g hlt]
  exact h
theorem impl_termSign (k : Int) (hk : k = 3 ∨ k = 4 ∨ k = 5 ∨ k = 6 ∨ k = 7 ∨ k = 9) (w : World) : Calls Tryz.prog 89 #[.int .i64 k] w fun e w' => e = .returned (.string (signB k)) ∧ w = w' := by
 rcases hk with rfl | rfl | rfl | rfl | rfl | rfl
 all_goals
  go_enter Tryz.func89, Tryz.ntmps89
  go_wp2_with fail
  go_ret
  exact ⟨rfl, rfl⟩
abbrev TxC (t : Tm) : Prop := ∀ (room : Nat) (k n : Int) (s : ByteArray) (A : Option Addr) (m c : Nat) (w : World), okT room t = true → room ≤ 6 → TmIs AnyB w [.int .i64 k, .int .i64 n, .string s, .slice A m c] t → TabW w →
 Calls Tryz.prog 64 #[.agg #[.int .i64 k, .int .i64 n, .string s, .slice A m c]] w fun e w' => e = .returned (.string ⟨(txtT t).toArray⟩) ∧ Below w.heap.size w w'
theorem impl_text_leaf (room : Nat) (k n : Int) (s : ByteArray) (A : Option Addr) (m c : Nat) (kids : List Tm) (w : World) (hk : k = 1 ∨ k = 2) (hok : okT room (.mk k n s kids) = true) (tab : TabW w) :
  Calls Tryz.prog 64 #[.agg #[.int .i64 k, .int .i64 n, .string s, .slice A m c]] w fun e w' => e = .returned (.string ⟨(txtT (.mk k n s kids)).toArray⟩) ∧ Below w.heap.size w w' := by
 rcases hk with rfl | rfl
 ·rw [txtT_num]
  obtain ⟨h0, h1⟩ := okT_num_bd hok
  have TB := qh tab
  clear tab hok
  go_enter Tryz.func64, Tryz.ntmps64
  go_wp2_with fail
  refine (impl_Decimal n (by omega) (by omega) _ (TB.out.below zB)).mono ?_
  rintro e w1 ⟨rfl, b1⟩
  have B1 : Hid (Below w.heap.size w w1) := qh (Below.trans zB (b1.mono (by simp)))
  clear b1
  go_wp2_with fail
  go_ret
  exact ⟨rfl, B1.out⟩
 ·rw [txtT_var]
  clear tab hok
  go_enter Tryz.func64, Tryz.ntmps64
  go_wp2_with fail
  go_ret
  exact ⟨ret_str (by simp), zB⟩
theorem impl_text_not (r : Nat) (hr : r ≤ 5) (n : Int) (s : ByteArray) (A : Option Addr) (c : Nat) (x : Tm) (ih : TxC x) (hx : okT r x = true) (w : World) (row : TmRow AnyB w A [x]) (tab : TabW w) :
  Calls Tryz.prog 64 #[.agg #[.int .i64 8, .int .i64 n, .string s, .slice A 1 c]] w fun e w' => e = .returned (.string ⟨(txtT (.mk 8 n s [x])).toArray⟩) ∧ Below w.heap.size w w' := by
 obtain ⟨F, hF⟩ : ∃ F : ByteArray, ⟨(txtT (.mk 8 n s [x])).toArray⟩ = F := ⟨_, rfl⟩
 have FS : Hid ((⟨#[40, 110, 111, 116, 32]⟩ : ByteArray) ++ ⟨(txtT x).toArray⟩ ++ ⟨#[41]⟩ = F) := qh (by rw [← hF, txtT_one]; apply str_ext; simp)
 rw [hF]
 clear hF
 obtain ⟨b, off, k0, n0, s0, A0, m0, c0, rfl, _, e0, e1, e2, e3, t0⟩ := rd_term row (k := 0) (by simp)
 have T0 : Hid (TmIs AnyB w [.int .i64 k0, .int .i64 n0, .string s0, .slice A0 m0 c0] x) := qh t0
 have IH := qh ih
 have TB := qh tab
 have HX := qh hx
 have hl := txt_len r x hx
 have hp : 2 ^ r ≤ 2 ^ 5 := Nat.pow_le_pow_right (by decide) hr
 have hl2 : (txtT x).length ≤ 1000 := by omega
 simp only [Nat.zero_mul, Nat.add_zero] at e0 e1 e2 e3
 have WA := Below.alloc (Below.refl w.heap.size w) (Nat.le_refl _) (.cells #[.int .i64 8, .int .i64 n, .string s, .slice (some ⟨b, off, none⟩) 1 c] 43)
 replace e0 := cell_keep WA e0
 replace e1 := cell_keep WA e1
 replace e2 := cell_keep WA e2
 replace e3 := cell_keep WA e3
 clear row t0 ih tab hx hp hl WA
 go_enter Tryz.func64, Tryz.ntmps64
 go_wp2_with fail
 refine (IH.out r _ _ _ _ _ _ _ HX.out (by omega) (T0.out.belowA zB) (TB.out.below zB)).mono ?_
 rintro e w1 ⟨rfl, b1⟩
 have B1 : Hid (Below w.heap.size w w1) := qh (Below.trans zB (b1.mono (by simp)))
 clear b1 e0 e1 e2 e3
 generalize txtT x = l at *
 go_wp2_with fail
 go_ret
 exact ⟨ret_str FS.out, B1.out⟩
theorem impl_text_two (r : Nat) (hr : r ≤ 5) (k n : Int) (hk : k = 3 ∨ k = 4 ∨ k = 5 ∨ k = 6 ∨ k = 7 ∨ k = 9) (s : ByteArray) (A : Option Addr) (c : Nat) (x y : Tm) (ih : TxC x) (ih' : TxC y) (hx : okT r x = true) (hy : okT r y = true) (w : World) (row : TmRow AnyB w A [x, y]) (tab : TabW w) :
  Calls Tryz.prog 64 #[.agg #[.int .i64 k, .int .i64 n, .string s, .slice A 2 c]] w fun e w' => e = .returned (.string ⟨(txtT (.mk k n s [x, y])).toArray⟩) ∧ Below w.heap.size w w' := by
 have hk1 : k ≠ 1 ∧ k ≠ 2 ∧ k ≠ 8 := by omega
 obtain ⟨h1, h2, h8⟩ := hk1
 obtain ⟨F, hF⟩ : ∃ F : ByteArray, ⟨(txtT (.mk k n s [x, y])).toArray⟩ = F := ⟨_, rfl⟩
 have FS : Hid ((⟨#[40]⟩ : ByteArray) ++ ⟨(txtT x).toArray⟩ ++ ⟨#[32]⟩ ++ signB k ++ ⟨#[32]⟩ ++ ⟨(txtT y).toArray⟩ ++ ⟨#[41]⟩ = F) := qh (by rw [← hF, txtT_two h1 h2 h8]; apply str_ext; unfold signK; simp)
 rw [hF]
 clear hF
 obtain ⟨b, off, k0, n0, s0, A0, m0, c0, rfl, _, e0, e1, e2, e3, t0⟩ := rd_term row (k := 0) (by simp)
 obtain ⟨b', off', k1, n1, s1, A1, m1, c1, eA, _, g0, g1, g2, g3, t1⟩ := rd_term row (k := 1) (by simp)
 injection eA with eA
 injection eA with eA1 eA2
 subst eA1 eA2
 have T0 : Hid (TmIs AnyB w [.int .i64 k0, .int .i64 n0, .string s0, .slice A0 m0 c0] x) := qh t0
 have T1 : Hid (TmIs AnyB w [.int .i64 k1, .int .i64 n1, .string s1, .slice A1 m1 c1] y) := qh t1
 have IH := qh ih
 have IH' := qh ih'
 have TB := qh tab
 have HX := qh hx
 have HY := qh hy
 have hlx := txt_len r x hx
 have hly := txt_len r y hy
 have hp : 2 ^ r ≤ 2 ^ 5 := Nat.pow_le_pow_right (by decide) hr
 have hl2 : (txtT x).length ≤ 1000 := by omega
 have hl3 : (txtT y).length ≤ 1000 := by omega
 have hsg : (signB k).size ≤ 3 := by have := signK_len k; unfold signK at this; simpa using this
 have HK := qh hk
 have q1 : (k == 1) = false := beq_eq_false_iff_ne.2 h1
 have q2 : (k == 2) = false := beq_eq_false_iff_ne.2 h2
 have q8 : (k == 8) = false := beq_eq_false_iff_ne.2 h8
 simp only [Nat.zero_mul, Nat.add_zero] at e0 e1 e2 e3
 simp only [Nat.one_mul, Nat.add_assoc, Nat.reduceAdd] at g0 g1 g2 g3
 clear row t0 t1 ih ih' tab hx hy hp hlx hly hk h1 h2 h8
 go_enter Tryz.func64, Tryz.ntmps64
 go_upto_region 8 with fail
 have WA := Below.alloc (Below.refl w.heap.size w) (Nat.le_refl _) (.cells #[.int .i64 k, .int .i64 n, .string s, .slice (some ⟨b, off, none⟩) 2 c] 43)
 replace e0 := cell_keep WA e0
 replace e1 := cell_keep WA e1
 replace e2 := cell_keep WA e2
 replace e3 := cell_keep WA e3
 replace g0 := cell_keep WA g0
 replace g1 := cell_keep WA g1
 replace g2 := cell_keep WA g2
 replace g3 := cell_keep WA g3
 have T0A := qh (T0.out.belowA WA)
 have T1A := qh (T1.out.belowA WA)
 have TBA := qh (TB.out.below WA)
 have HW := qh WA
 obtain ⟨x0, x1, x2, x3⟩ : Box4 (w.alloc (.cells #[.int .i64 k, .int .i64 n, .string s, .slice (some ⟨b, off, none⟩) 2 c] 43)) w.heap.size (vt k n s (some ⟨b, off, none⟩) 2 c) := Box4.lit rfl
 simp only [vt] at x0 x1 x2 x3
 clear WA T0 T1 TB
 generalize w.alloc (.cells #[.int .i64 k, .int .i64 n, .string s, .slice (some ⟨b, off, none⟩) 2 c] 43) = w1 at *
 refine wp_region_later (by kernel_rfl) (by kernel_rfl) ?_
 intro gw hgw hcw
 have HG := qh hgw
 have HC := qh hcw
 clear hgw hcw
 have p0 : ∀ n', (gw n').cell? ⟨w.heap.size, 0, none⟩ = some (.int .i64 k) := fun n' => cell_keep (HG.out n') x0
 have p3 : ∀ n', (gw n').cell? ⟨w.heap.size, 3, none⟩ = some (.slice (some ⟨b, off, none⟩) 2 c) := fun n' => cell_keep (HG.out n') x3
 have f0 : ∀ n', (gw n').cell? ⟨b, off, none⟩ = some (.int .i64 k0) := fun n' => cell_keep (HG.out n') e0
 have f1 : ∀ n', (gw n').cell? ⟨b, off + 1, none⟩ = some (.int .i64 n0) := fun n' => cell_keep (HG.out n') e1
 have f2 : ∀ n', (gw n').cell? ⟨b, off + 2, none⟩ = some (.string s0) := fun n' => cell_keep (HG.out n') e2
 have f3 : ∀ n', (gw n').cell? ⟨b, off + 3, none⟩ = some (.slice A0 m0 c0) := fun n' => cell_keep (HG.out n') e3
 have r0 : ∀ n', (gw n').cell? ⟨b, off + 4, none⟩ = some (.int .i64 k1) := fun n' => cell_keep (HG.out n') g0
 have r1 : ∀ n', (gw n').cell? ⟨b, off + 5, none⟩ = some (.int .i64 n1) := fun n' => cell_keep (HG.out n') g1
 have r2 : ∀ n', (gw n').cell? ⟨b, off + 6, none⟩ = some (.string s1) := fun n' => cell_keep (HG.out n') g2
 have r3 : ∀ n', (gw n').cell? ⟨b, off + 7, none⟩ = some (.slice A1 m1 c1) := fun n' => cell_keep (HG.out n') g3
 have QX := qh (fun m => IH.out r k0 n0 s0 A0 m0 c0 (gw m) HX.out (by omega) (T0A.out.belowA (HG.out m)) (TBA.out.below (HG.out m)))
 have QY := qh (fun m => IH'.out r k1 n1 s1 A1 m1 c1 (gw m) HY.out (by omega) (T1A.out.belowA (HG.out m)) (TBA.out.below (HG.out m)))
 have QS := qh (fun m => impl_termSign k HK.out (gw m))
 clear x0 x1 x2 x3 e0 e1 e2 e3 g0 g1 g2 g3 T0A T1A TBA IH IH'
 generalize txtT x = X at *
 generalize txtT y = Y at *
 generalize hsb : signB k = sg at *
 repeat (go_big_quiet_step ((first | (go_at_call 64; with_reducible exact later_of HC (QX.out _)) | (go_at_call 64; with_reducible exact later_of HC (QY.out _)) | (go_at_call 89; with_reducible exact later_same (QS.out _)))))
 refine wpQuiet_nil ?_
 intro _ hw'
 obtain ⟨nq, hw''⟩ := hw'
 subst hw''
 clear p0 p3 f0 f1 f2 f3 r0 r1 r2 r3
 go_wp2_with fail
 go_ret
 exact ⟨ret_str FS.out, below_then HW.out (HG.out _)⟩
theorem impl_textOfTerm (t : Tm) : TxC t := by
 induction hN : nodes t using Nat.strongRecOn generalizing t with
 | ind N ih =>
  intro room k n s A m c w hok hr ht tab
  obtain ⟨kids, rfl, rfl, hl, hc, _, _, _, row⟩ := ht.inv
  by_cases h1 : k = 1
  ·exact impl_text_leaf room k n s A _ c kids w (.inl h1) hok tab
  by_cases h2 : k = 2
  ·exact impl_text_leaf room k n s A _ c kids w (.inr h2) hok tab
  obtain ⟨r, rfl, ⟨rfl, x, rfl, hx⟩ | ⟨hk, x, y, rfl, hx, hy⟩⟩ := okT_kids h1 h2 hok
  ·exact impl_text_not r (by omega) n s A c x (ih (nodes x) (by rw [← hN]; exact kid_lt (by simp)) x rfl) hx w row tab
  ·exact impl_text_two r (by omega) k n hk s A c x y (ih (nodes x) (by rw [← hN]; exact kid_lt (by simp)) x rfl) (ih (nodes y) (by rw [← hN]; exact kid_lt (by simp)) y rfl) hx hy w row tab
theorem impl_TermText (t : Tm) (k n : Int) (s : ByteArray) (A : Option Addr) (m c : Nat) (w : World) (ht : TmIs AnyB w [.int .i64 k, .int .i64 n, .string s, .slice A m c] t) (tab : TabW w) :
  Calls Tryz.prog 33 #[.agg #[.int .i64 k, .int .i64 n, .string s, .slice A m c]] w fun e w' => e = .returned (.string ⟨(txtR t).toArray⟩) ∧ Below w.heap.size w w' := by
 have HT := qh ht
 have TB := qh tab
 clear ht tab
 cases h : okT 6 t with
 | false =>
  have FR := qh (txtR_no h)
  have OK := qh h
  clear h
  go_enter Tryz.func33, Tryz.ntmps33
  go_wp2_with fail
  refine (impl_TermOk t k n s A m c _ (HT.out.belowA zB)).mono ?_
  rintro e w1 ⟨rfl, b1⟩
  have B1 : Hid (Below w.heap.size w w1) := qh (Below.trans zB (b1.mono (by simp)))
  rw [OK.out]
  clear b1
  go_wp2_with fail
  go_ret
  exact ⟨by rw [FR.out]; rfl, B1.out⟩
 | true =>
  have FR := qh (txtR_yes h)
  have OK := qh h
  clear h
  go_enter Tryz.func33, Tryz.ntmps33
  go_wp2_with fail
  refine (impl_TermOk t k n s A m c _ (HT.out.belowA zB)).mono ?_
  rintro e w1 ⟨rfl, b1⟩
  have B1 : Hid (Below w.heap.size w w1) := qh (Below.trans zB (b1.mono (by simp)))
  have X1 : Box4 w1 w.heap.size (vt k n s A m c) := Box4.below (Box4.lit rfl) b1
  obtain ⟨p0, p1, p2, p3⟩ := X1
  simp only [vt] at p0 p1 p2 p3
  rw [OK.out]
  clear b1
  go_wp2_with fail
  refine (impl_textOfTerm t 6 k n s A m c _ OK.out (by omega) (HT.out.belowA B1.out) (TB.out.below B1.out)).mono ?_
  rintro e w2 ⟨rfl, b2⟩
  have B2 := qh (below_then B1.out b2)
  clear b2
  generalize hX : txtT t = X at *
  go_wp2_with fail
  go_ret
  exact ⟨by rw [FR.out]; rfl, B2.out⟩
theorem spec_TermText (t : Tm) (k n : Int) (s : ByteArray) (A : Option Addr) (m c : Nat) (w : World) (ht : TmIs AnyB w [.int .i64 k, .int .i64 n, .string s, .slice A m c] t) :
  Calls Tryz.prog 37 #[.agg #[.int .i64 k, .int .i64 n, .string s, .slice A m c]] w fun e w' => e = .returned (.string ⟨(txtR t).toArray⟩) ∧ Below w.heap.size w w' := by
 have HT := qh ht
 clear ht
 cases h : okT 6 t with
 | false =>
  have FR := qh (txtR_no h)
  have OK := qh h
  clear h
  go_enter Tryz.func37, Tryz.ntmps37
  go_wp2_with fail
  refine (spec_TermOk t k n s A m c _ (HT.out.belowA zB)).mono ?_
  rintro e w1 ⟨rfl, b1⟩
  have B1 : Hid (Below w.heap.size w w1) := qh (Below.trans zB (b1.mono (by simp)))
  rw [OK.out]
  clear b1
  go_wp2_with fail
  go_ret
  exact ⟨by rw [FR.out]; rfl, B1.out⟩
 | true =>
  have FR := qh (txtR_yes h)
  have OK := qh h
  clear h
  go_enter Tryz.func37, Tryz.ntmps37
  go_wp2_with fail
  refine (spec_TermOk t k n s A m c _ (HT.out.belowA zB)).mono ?_
  rintro e w1 ⟨rfl, b1⟩
  have B1 : Hid (Below w.heap.size w w1) := qh (Below.trans zB (b1.mono (by simp)))
  have X1 : Box4 w1 w.heap.size (vt k n s A m c) := Box4.below (Box4.lit rfl) b1
  obtain ⟨p0, p1, p2, p3⟩ := X1
  simp only [vt] at p0 p1 p2 p3
  have hz := cell_lt p0
  rw [OK.out]
  clear b1
  have OB : Hid (OutB w (w1.alloc (.cells #[] 5)) (.slice (some ⟨w1.heap.size, 0, none⟩) 0 0) []) := qh (OutB.empty B1.out)
  go_wp2_with fail
  refine (spec_l03Say t 6 k n s A m c w _ _ [] OK.out HT.out OB.out (by simp) (by omega)).mono ?_
  rintro e w2 ⟨v2, rfl, o2, _⟩
  have B2 := qh o2.own
  have e2 : OutB w w2 v2 (txtT t) := o2
  obtain ⟨A2, c2, rfl, _⟩ := e2.slice
  have cv := str_run (w := w2) c2 (Own.rd e2)
  clear o2 e2
  generalize hX : txtT t = X at *
  go_wp2_with fail
  go_ret
  exact ⟨by rw [FR.out]; rfl, B2.out⟩
def nmAt (ss : List ByteArray) (a : Int) : List UInt8 := (ss.getD a.toNat ByteArray.empty).data.toList
def restL (p : Cd) (x : Ic) : List UInt8 :=
 if x.op = 1 then [115, 101, 116, 32] ++ nmAt p.globals x.arg ++ [32, 61, 32] ++ txtR x.term
 else if x.op = 2 then [116, 101, 115, 116, 32] ++ txtR x.term ++ [32, 101, 108, 115, 101, 32] ++ Lib.itoa x.to
 else if x.op = 3 then [106, 117, 109, 112, 32] ++ Lib.itoa x.to
 else if x.op = 4 then [99, 97, 108, 108, 32] ++ nmAt p.procs x.arg
 else if x.op = 5 then [115, 112, 97, 119, 110, 32] ++ nmAt p.procs x.arg
 else if x.op = 6 then [108, 111, 99, 107, 32] ++ nmAt p.locks x.arg
 else if x.op = 7 then [117, 110, 108, 111, 99, 107, 32] ++ nmAt p.locks x.arg
 else if x.op = 8 then [115, 107, 105, 112]
 else [101, 110, 100]
def lineL (p : Cd) (x : Ic) (j : Nat) : List UInt8 := Lib.itoa (j : Int) ++ [32] ++ restL p x
theorem txtR_len (t : Tm) : (txtR t).length ≤ 2000 := by
 unfold txtR
 split
 ·next h => have := txt_len 6 t h; omega
 ·simp
theorem nmAt_get {ss : List ByteArray} {a : Nat} (h : a < ss.length) : nmAt ss (a : Int) = ss[a].data.toList := by
 unfold nmAt; rw [Int.toNat_natCast, List.getD_eq_getElem?_getD, List.getElem?_eq_getElem h]; rfl
theorem name_small {m : Nat} {ss : List ByteArray} (h : namesB m ss = true) {a : Nat} (ha : a < ss.length) : ss[a].size ≤ 12 := by
 unfold namesB at h
 rw [Bool.and_eq_true, List.all_eq_true] at h
 have := name_len (h.2 ss[a] (List.getElem_mem ha))
 simpa using this
theorem itoa_20 (n : Int) (h0 : -9223372036854775808 ≤ n) (h1 : n ≤ 9223372036854775807) : (Lib.itoa n).length ≤ 21 := Lib.itoa_length_le n (by omega) (by omega)
theorem ins_in {p : Cd} (h : CodOk p) {j : Nat} (hj : j < p.ins.length) : inB p.ins[j].op 1 9 = true ∧ inB p.ins[j].arg 0 (mostC p p.ins[j].op) = true := by
 have := h.ins j hj
 unfold insB at this
 simp only [Bool.and_eq_true] at this
 exact ⟨this.1.1.1, this.1.1.2⟩
theorem nam_g {p : Cd} (h : namB p = true) : namesB 6 p.globals = true := by unfold namB at h; simp only [Bool.and_eq_true] at h; exact h.1.1.1.1.1.1
theorem nam_l {p : Cd} (h : namB p = true) : namesB 6 p.locks = true := by unfold namB at h; simp only [Bool.and_eq_true] at h; exact h.1.1.1.1.1.2
theorem nam_p {p : Cd} (h : namB p = true) : namesB 8 p.procs = true := by unfold namB at h; simp only [Bool.and_eq_true] at h; exact h.1.1.1.1.2
theorem spec_InsLine_yes (p : Cd) (x : V5) (w : World) (hp : CdIs w x p) (htot : totCd p ≤ 1048576) (hk : CodOk p) (j : Nat) (hj : j < p.ins.length) :
  Calls Tryz.prog 13 #[x.val p, .int .i64 (j : Int)] w fun e w' => e = .returned (.string ⟨(lineL p p.ins[j] j).toArray⟩) ∧ Below w.heap.size w w' := by
 obtain ⟨gA, gc, lA, lc, pA, pc, eA, ec, iA, ic⟩ := x
 obtain ⟨b, off, ⟨yo, ya, yk, yn, ys, yA, ym, yc, yt⟩, e1, _, _, -, -, -, io, ia, ito, -⟩ := rd_ins hp.i3 hj
 simp only at e1
 subst e1
 have hgl := hp.g1
 have hgc := hp.g2
 have hll := hp.l1
 have hlc := hp.l2
 have hpl := hp.p1
 have hpc := hp.p2
 have hil := hp.i1
 have hic := hp.i2
 simp only at hgl hgc hll hlc hpl hpc hil hic
 unfold maxLen at hgc hlc hpc hic
 have HK := qh hk
 have H1 := qh (decP_yes hk)
 have IN := qh (ins_in hk hj).2
 have h0j : (0 : Int) ≤ (j : Int) := by omega
 have h1j : (j : Int) < (p.ins.length : Int) := by omega
 have q2 : inB (j : Int) 0 ((p.ins.length : Int) - 1) = true := inBi_yes (by omega) (by omega)
 have HQ := qh hp
 unfold V5.val
 simp only
 obtain ⟨an, han⟩ : ∃ an : Nat, p.ins[j].arg = (an : Int) := ⟨p.ins[j].arg.toNat, by have := (inB_dest IN.out).1; omega⟩
 have HAN := qh han
 obtain ⟨F, hF⟩ : ∃ F : ByteArray, ⟨(lineL p p.ins[j] j).toArray⟩ = F := ⟨_, rfl⟩
 rw [hF]
 have HF := qh hF
 have htl := itoa_20 p.ins[j].to ito.1 ito.2
 have hjl := itoa_20 (j : Int) (by omega) (by omega)
 have hxl := txtR_len p.ins[j].term
 have h0a : (0 : Int) ≤ (an : Int) := by omega
 have hop := inB_dest (ins_in hk hj).1
 obtain ⟨op, ho0⟩ : ∃ o, p.ins[j].op = o := ⟨_, rfl⟩
 rw [ho0] at hop
 obtain ⟨hop1, hop9⟩ := hop
 have HO := qh ho0
 clear hp hk io ia hF han ho0
 go_enter Tryz.func13, Tryz.ntmps13
 go_wp2_with fail
 refine (spec_CodeOk p ⟨gA, gc, lA, lc, pA, pc, eA, ec, some ⟨b, off, none⟩, ic⟩ _ (HQ.out.belowA zB) htot).mono ?_
 rintro e w2 ⟨rfl, b1⟩
 have BB := qh (Below.trans zB (b1.mono (by simp)) : Below w.heap.size w w2)
 have BX := qh ((Box5.new w ⟨gA, gc, lA, lc, pA, pc, eA, ec, some ⟨b, off, none⟩, ic⟩ p 32).below b1)
 rw [H1.out]
 clear b1
 obtain ⟨p0, p1, p2, p3, p4⟩ := BX.out
 simp only at p0 p1 p2 p3 p4
 obtain ⟨b', off', ⟨yo', ya', yk', yn', ys', yA', ym', yc', yt'⟩, e1, _, ⟨d0, d1, d2, d3, d4, d5, d6⟩, ho, ha, hto, _, _, _, hT⟩ := rd_ins (HQ.out.belowA BB.out).i3 hj
 injection e1 with e1
 injection e1 with e2 e3
 subst e2 e3
 simp only [V7.term] at ho ha hto hT d0 d1 d2 d3 d4 d5 d6
 rw [HO.out] at ho
 subst ho ha hto
 have HT := qh hT
 have CX0 := qh (Cells7.new w2 ⟨yo', p.ins[j].arg, yk', yn', ys', yA', ym', yc', p.ins[j].to⟩ 45)
 clear hT
 go_wp2_with (go_at_call 35; (with_reducible refine (in_litC q2 _).mono ?_); rintro e w' ⟨rfl, rfl⟩)
 refine (spec_Decimal (j : Int) (by omega) (by omega) _).mono ?_
 rintro e w4 ⟨rfl, b4⟩
 have B4 := qh (below_then BB.out (Below.trans (Below.alloc (Below.refl _ _) (Nat.le_refl _) _) (b4.mono (by simp))))
 have BX4 := qh (BX.out.below (Below.trans (Below.alloc (Below.refl _ _) (Nat.le_refl _) _) (b4.mono (by simp))))
 have CX4 := qh (CX0.out.below b4)
 have HT4 := qh (HT.out.belowA (Below.trans (Below.alloc (Below.refl _ _) (Nat.le_refl _) _) (b4.mono (by simp))))
 clear b4 d0 d1 d2 d3 d4 d5 d6 p0 p1 p2 p3 p4 BX CX0 HT
 generalize hJ : Lib.itoa (j : Int) = J at *
 have HJ := qh hJ
 obtain ⟨p0, p1, p2, p3, p4⟩ := BX4.out
 obtain ⟨r0, r1, r2, r3, r4, r5, r6⟩ := CX4.out
 simp only at p0 p1 p2 p3 p4 r0 r1 r2 r3 r4 r5 r6
 rw [HAN.out] at r1
 have hcs : yo' = 1 ∨ yo' = 2 ∨ yo' = 3 ∨ (yo' = 4 ∨ yo' = 5) ∨ (yo' = 6 ∨ yo' = 7) ∨ yo' = 8 ∨ yo' = 9 := by omega
 clear hop1 hop9 hJ
 rcases hcs with rfl | rfl | rfl | h | h | h
 ·have hal : an < p.globals.length := by
   have h1 := (inB_dest IN.out).2
   rw [HO.out, HAN.out] at h1
   have h2 : (an : Int) ≤ (p.globals.length : Int) - 1 := h1
   omega
  have hsm := name_small (nam_g HK.out.head.nam) hal
  have h1a : (an : Int) < (p.globals.length : Int) := by omega
  obtain ⟨nb, noff, e1, ncell⟩ := rd_str (HQ.out.belowA B4.out).g3 hal
  simp only at e1
  subst e1
  generalize hnm : p.globals[an] = nm at *
  have HNM := qh hnm
  have NC := qh ncell
  clear hnm
  go_wp2_with fail
  clear p0 p1 p2 p3 p4 r0 r1 r2 r3 r4 r5 r6 ncell
  refine wp_region_later (by kernel_rfl) (by kernel_rfl) ?_
  intro gw hgw hcw
  have HG := qh hgw
  have HC := qh hcw
  clear hgw hcw
  have P := qh (fun n => BX4.out.below (HG.out n))
  have C := qh (fun n => CX4.out.below (HG.out n))
  obtain ⟨p0, p1, p2, p3, p4, r0, r1, r2, r3, r4, r5, r6⟩ := all12 P.out C.out
  simp only at p0 p1 p2 p3 p4 r0 r1 r2 r3 r4 r5 r6
  simp only [HAN.out] at r1
  have nc : ∀ n, (gw n).cell? ⟨nb, noff + an, none⟩ = some (.string nm) := fun n => cell_keep (HG.out n) NC.out
  have QT := qh (fun m => spec_TermText p.ins[j].term yk' yn' ys' yA' ym' yc' (gw m) (HT4.out.belowA (HG.out m)))
  generalize hTT : txtR p.ins[j].term = T at *
  have HTT := qh hTT
  clear hTT
  repeat (go_big_quiet_step ((first | (go_at_call 37; exact later_of HC (QT.out _)))))
  refine wpQuiet_nil ?_
  intro _ hw'
  obtain ⟨nq, hw''⟩ := hw'
  subst hw''
  clear p0 p1 p2 p3 p4 r0 r1 r2 r3 r4 r5 r6 nc
  go_wp2_with fail
  go_ret
  exact ⟨ret_str (by rw [← HF.out]; apply str_ext; simp [lineL, restL, HO.out, HJ.out, HAN.out, nmAt_get hal, HNM.out, HTT.out]), below_then B4.out (HG.out _)⟩
 ·go_wp2_with fail
  clear p0 p1 p2 p3 p4 r0 r1 r2 r3 r4 r5 r6
  refine wp_region_later (by kernel_rfl) (by kernel_rfl) ?_
  intro gw hgw hcw
  have HG := qh hgw
  have HC := qh hcw
  clear hgw hcw
  have P := qh (fun n => BX4.out.below (HG.out n))
  have C := qh (fun n => CX4.out.below (HG.out n))
  obtain ⟨p0, p1, p2, p3, p4, r0, r1, r2, r3, r4, r5, r6⟩ := all12 P.out C.out
  simp only at p0 p1 p2 p3 p4 r0 r1 r2 r3 r4 r5 r6
  have QT := qh (fun m => spec_TermText p.ins[j].term yk' yn' ys' yA' ym' yc' (gw m) (HT4.out.belowA (HG.out m)))
  have QD := qh (fun m => spec_Decimal p.ins[j].to ito.1 ito.2 (gw m))
  generalize hTT : txtR p.ins[j].term = T at *
  generalize hDD : Lib.itoa p.ins[j].to = D at *
  have HTT := qh hTT
  have HDD := qh hDD
  clear hTT hDD
  repeat (go_big_quiet_step ((first | (go_at_call 37; exact later_of HC (QT.out _)) | (go_at_call 36; exact later_of HC (QD.out _)))))
  refine wpQuiet_nil ?_
  intro _ hw'
  obtain ⟨nq, hw''⟩ := hw'
  subst hw''
  clear p0 p1 p2 p3 p4 r0 r1 r2 r3 r4 r5 r6
  go_wp2_with fail
  go_ret
  exact ⟨ret_str (by rw [← HF.out]; apply str_ext; simp [lineL, restL, HO.out, HJ.out, HTT.out, HDD.out]), below_then B4.out (HG.out _)⟩
 ·go_wp2_with fail
  refine (spec_Decimal p.ins[j].to ito.1 ito.2 _).mono ?_
  rintro e w5 ⟨rfl, b5⟩
  have B5 := qh (below_then B4.out b5)
  clear b5 p0 p1 p2 p3 p4 r0 r1 r2 r3 r4 r5 r6
  generalize hDD : Lib.itoa p.ins[j].to = D at *
  have HDD := qh hDD
  clear hDD
  go_wp2_with fail
  go_ret
  exact ⟨ret_str (by rw [← HF.out]; apply str_ext; simp [lineL, restL, HO.out, HJ.out, HDD.out]), B5.out⟩
 ·rcases h with rfl | rfl
  all_goals
   have hal : an < p.procs.length := by
    have h1 := (inB_dest IN.out).2
    rw [HO.out, HAN.out] at h1
    have h2 : (an : Int) ≤ (p.procs.length : Int) - 1 := h1
    omega
   have hsm := name_small (nam_p HK.out.head.nam) hal
   have h1a : (an : Int) < (p.procs.length : Int) := by omega
   obtain ⟨nb, noff, e1, ncell⟩ := rd_str (HQ.out.belowA B4.out).p3 hal
   simp only at e1
   subst e1
   generalize hnm : p.procs[an] = nm at *
   have HNM := qh hnm
   clear hnm
   go_wp2_with fail
   go_ret
   exact ⟨ret_str (by rw [← HF.out]; apply str_ext; simp [lineL, restL, HO.out, HJ.out, HAN.out, nmAt_get hal, HNM.out]), B4.out⟩
 ·rcases h with rfl | rfl
  all_goals
   have hal : an < p.locks.length := by
    have h1 := (inB_dest IN.out).2
    rw [HO.out, HAN.out] at h1
    have h2 : (an : Int) ≤ (p.locks.length : Int) - 1 := h1
    omega
   have hsm := name_small (nam_l HK.out.head.nam) hal
   have h1a : (an : Int) < (p.locks.length : Int) := by omega
   obtain ⟨nb, noff, e1, ncell⟩ := rd_str (HQ.out.belowA B4.out).l3 hal
   simp only at e1
   subst e1
   generalize hnm : p.locks[an] = nm at *
   have HNM := qh hnm
   clear hnm
   go_wp2_with fail
   go_ret
   exact ⟨ret_str (by rw [← HF.out]; apply str_ext; simp [lineL, restL, HO.out, HJ.out, HAN.out, nmAt_get hal, HNM.out]), B4.out⟩
 ·rcases h with rfl | rfl
  all_goals
   go_wp2_with fail
   go_ret
   exact ⟨ret_str (by rw [← HF.out]; apply str_ext; simp [lineL, restL, HO.out, HJ.out]), B4.out⟩
structure ProcAtC (C : Cd) (i b f : Nat) : Prop where
 le : b ≤ f
 lt : f < C.ins.length
 fin : endR C (i : Int) = (f : Int)
 op : ∀ h : f < C.ins.length, C.ins[f].op = 9
 ent : ∀ h : i < C.entry.length, C.entry[i] = (b : Int)
 proc : ∀ j, b ≤ j → j ≤ f → procR C (j : Int) = (i : Int)
structure CodeFacts (L : List Pr) (C : Cd) : Prop where
 tot : totCd C ≤ 1048576
 ok : CodOk C
 nprocs : C.procs.length = L.length
 nentry : C.entry.length = L.length
 nins : C.ins.length ≤ 1500
 name : ∀ i (h : i < L.length) (h' : i < C.procs.length), C.procs[i] = L[i].name
 at' : ∀ i, i < L.length → ∃ b f, ProcAtC C i b f
 procLen : procR C (C.ins.length : Int) = -1
theorem code_facts (code : List UInt8) : ∃ C, codeR ⟨glD, loN, (drawnP code).procs⟩ = (C, true) ∧ CodeFacts (drawnP code).procs C := by
 obtain ⟨hf, htp, htc, hl4⟩ := drawn_code code
 generalize (drawnP code).procs = L at *
 have he := code_entry_len ⟨glD, loN, L⟩
 refine ⟨codeP ⟨glD, loN, L⟩, codeR_good hf, htc, code_ok hf, pnames_len L, he, code_len hf, fun i h h' => ?_, fun i hi => ?_, code_proc_len _⟩
 ·show (pnames L)[i]'(by rw [pnames_len]; exact h) = _
  simp [pnames]
 ·have hu := pl_up ⟨glD, loN, L⟩ (i := i) hi
  have ht := pl_top ⟨glD, loN, L⟩ (i + 1)
  refine ⟨pl ⟨glD, loN, L⟩ i, pl ⟨glD, loN, L⟩ (i + 1) - 1, by omega, by omega, ?_, fun h => code_op hf hi h, fun h => ?_, fun j h1 h2 => code_proc hf hi h1 (by omega)⟩
  ·rw [code_end hf hi]; omega
  ·have e := code_entry ⟨glD, loN, L⟩ (i := i) hi 0
   rw [List.getD_eq_getElem?_getD, List.getElem?_eq_getElem h] at e
   exact e
abbrev LyC (t : Tm) : Prop := ∀ (k n : Int) (s : ByteArray) (A : Option Addr) (m c : Nat) (k' n' : Int) (s' : ByteArray) (A' : Option Addr) (m' c' : Nat) (w : World), TmIs AnyB w [.int .i64 k, .int .i64 n, .string s, .slice A m c] t → TmIs AnyB w [.int .i64 k', .int .i64 n', .string s', .slice A' m' c'] t →
 Calls Tryz.prog 87 #[.agg #[.int .i64 k, .int .i64 n, .string s, .slice A m c], .agg #[.int .i64 k', .int .i64 n', .string s', .slice A' m' c']] w fun e w' => e = .returned (.bool true) ∧ Below w.heap.size w w'
theorem laws_sameTerms (ss : List Tm) (ih : ∀ t ∈ ss, LyC t) (A A' : Option Addr) (c c' : Nat) (w : World) (row : TmRow AnyB w A ss) (row' : TmRow AnyB w A' ss) (hl : ss.length ≤ c) (hl' : ss.length ≤ c') (hc : c ≤ maxLen) (hc' : c' ≤ maxLen) :
  Calls Tryz.prog 103 #[.slice A ss.length c, .slice A' ss.length c'] w fun e w' => e = .returned (.bool true) ∧ Below w.heap.size w w' := by
 unfold maxLen at hc hc'
 have IH := qh ih
 have RW := qh row
 have RW' := qh row'
 clear ih row row'
 have g1 : ((ss.length : Int) != (ss.length : Int)) = false := by simp
 go_enter Tryz.func103, Tryz.ntmps103
 go_wp2_with fail
 go_loopw [5] (fun i wr => ∃ k : Nat, k ≤ ss.length ∧ i = .int .i64 k ∧ Below w.heap.size w wr) (fun i _ => ss.length - (intOf i).toNat)
 case atStart => exact ⟨0, Nat.zero_le _, rfl, Below.refl _ _⟩
 case round =>
  obtain ⟨k, hk, rfl, hb⟩ := hrel
  have HB := qh hb
  clear hb
  by_cases hlt : k < ss.length
  ·obtain ⟨b, off, k1, n1, s1, A1, m1, c1, rfl, _, d0, d1, d2, d3, ht⟩ := rd_term (RW.out.belowA HB.out) hlt
   obtain ⟨b', off', k2, n2, s2, A2, m2, c2, rfl, _, e0, e1, e2, e3, ht'⟩ := rd_term (RW'.out.belowA HB.out) hlt
   have T1 := qh ht
   have T2 := qh ht'
   clear ht ht'
   have h0k : (0 : Int) ≤ (k : Int) := by omega
   have h1k : (k : Int) < (ss.length : Int) := by omega
   go_wp2_with fail
   refine wp_region_later (by kernel_rfl) (by kernel_rfl) ?_
   intro gw hgw hcw
   have HG := qh hgw
   have HC := qh hcw
   clear hgw hcw
   have p0 : ∀ m', (gw m').cell? ⟨b, off + k * 4, none⟩ = some (.int .i64 k1) := fun m' => cell_keep (HG.out m') d0
   have p1 : ∀ m', (gw m').cell? ⟨b, off + k * 4 + 1, none⟩ = some (.int .i64 n1) := fun m' => cell_keep (HG.out m') d1
   have p2 : ∀ m', (gw m').cell? ⟨b, off + k * 4 + 2, none⟩ = some (.string s1) := fun m' => cell_keep (HG.out m') d2
   have p3 : ∀ m', (gw m').cell? ⟨b, off + k * 4 + 3, none⟩ = some (.slice A1 m1 c1) := fun m' => cell_keep (HG.out m') d3
   have q0 : ∀ m', (gw m').cell? ⟨b', off' + k * 4, none⟩ = some (.int .i64 k2) := fun m' => cell_keep (HG.out m') e0
   have q1 : ∀ m', (gw m').cell? ⟨b', off' + k * 4 + 1, none⟩ = some (.int .i64 n2) := fun m' => cell_keep (HG.out m') e1
   have q2 : ∀ m', (gw m').cell? ⟨b', off' + k * 4 + 2, none⟩ = some (.string s2) := fun m' => cell_keep (HG.out m') e2
   have q3 : ∀ m', (gw m').cell? ⟨b', off' + k * 4 + 3, none⟩ = some (.slice A2 m2 c2) := fun m' => cell_keep (HG.out m') e3
   repeat (go_big_quiet_step ((first | (go_at_call 87; exact later_of HC (IH.out _ (List.getElem_mem hlt) k1 n1 s1 A1 m1 c1 k2 n2 s2 A2 m2 c2 _ (T1.out.belowA (HG.out _)) (T2.out.belowA (HG.out _)))))))
   refine wpQuiet_nil ?_
   intro _ hw'
   obtain ⟨nq, hw''⟩ := hw'
   subst hw''
   go_wp2_with fail
   go_roundw
   case rel => exact ⟨k + 1, by omega, by go_num, HB.out.trans ((HG.out _).mono HB.out.size)⟩
   case measure => simp [intOf]; omega
  ·go_wp2_with fail
   go_ret
   exact ⟨rfl, HB.out⟩
theorem laws_sameTerm (t : Tm) : LyC t := by
 induction hN : nodes t using Nat.strongRecOn generalizing t with
 | ind N ih =>
  intro k n s A m c k' n' s' A' m' c' w ht ht'
  obtain ⟨kids, rfl, rfl, hl, hc, _, _, hs, row⟩ := ht.inv
  obtain ⟨kids', e, rfl, hl', hc', _, _, hs', row'⟩ := ht'.inv
  injection e with e1 e2 e3 e4
  subst e1 e2 e3 e4
  have IH : Hid (∀ x ∈ kids, LyC x) := qh fun x hx => ih (nodes x) (by rw [← hN]; exact kid_lt hx) x rfl
  have RW := qh row
  have RW' := qh row'
  have q : (s.toList == s.toList) = true := by simp
  clear ih hN ht row ht' row'
  go_enter Tryz.func87, Tryz.ntmps87
  go_wp2_with fail
  refine (laws_sameTerms kids IH.out A A' c c' _ (RW.out.belowA zB) (RW'.out.belowA zB) hl hl' hc hc').mono ?_
  rintro e w1 ⟨rfl, b1⟩
  have B1 : Below w.heap.size w w1 := Below.trans zB (b1.mono (by simp; omega))
  have H1 := qh B1
  clear b1 B1
  go_wp2_with fail
  go_ret
  exact ⟨rfl, H1.out⟩
end Go.Proofs.YtnmblfonmfjoeaaGreatDoor
