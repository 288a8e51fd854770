/- Lemmas for the row. -/
import Derived.Test.YtnmblfonmfjoeaaGreatDoorKc40
namespace Go.Proofs.YtnmblfonmfjoeaaGreatDoor
open Go.RowKit
set_option maxHeartbeats 3200000
set_option maxRecDepth 100000
set_option linter.unusedVariables false
theorem below_then2 {w0 w w' : World} (h : Below w0.heap.size w0 w) (k : Below w.heap.size w w') : Below w0.heap.size w0 w' := h.trans (k.mono h.size)
theorem kinds_cases {k : Int} (hk : k = 3 ∨ k = 4 ∨ k = 5 ∨ k = 6 ∨ k = 7 ∨ k = 9) : k ≠ 1 ∧ k ≠ 2 ∧ k ≠ 8 := by omega
theorem spec_l03Sign (k : Int) (hk : k = 3 ∨ k = 4 ∨ k = 5 ∨ k = 6 ∨ k = 7 ∨ k = 9) (w : World) : Calls Tryz.prog 95 #[.int .i64 k] w fun e w' => e = .returned (.string (signB k)) ∧ Below w.heap.size w w' := by
 rcases hk with rfl | rfl | rfl | rfl | rfl | rfl
 all_goals
  go_enter Tryz.func95, Tryz.ntmps95
  go_wp2_with fail
  go_ret
  exact ⟨rfl, zB⟩
abbrev SyC (t : Tm) : Prop := ∀ (room : Nat) (k n : Int) (s : ByteArray) (A : Option Addr) (m c : Nat) (w0 w : World) (v : Value) (acc : List UInt8), okT room t = true → TmIs AnyB w0 [.int .i64 k, .int .i64 n, .string s, .slice A m c] t → OutB w0 w v acc → acc.length + 30 * 2 ^ room ≤ 50000000000 → room ≤ 6 →
 Calls Tryz.prog 69 #[v, .agg #[.int .i64 k, .int .i64 n, .string s, .slice A m c]] w fun e w' => ∃ v', e = .returned v' ∧ OutB w0 w' v' (acc ++ txtT t) ∧ Grew v v' w w'
theorem spec_say_num (room : Nat) (n : Int) (s : ByteArray) (A : Option Addr) (m c : Nat) (kids : List Tm) (w0 w : World) (v : Value) (acc : List UInt8) (hok : okT room (.mk 1 n s kids) = true) (own : OutB w0 w v acc) (hb : acc.length ≤ 60000000000) :
  Calls Tryz.prog 69 #[v, .agg #[.int .i64 1, .int .i64 n, .string s, .slice A m c]] w fun e w' => ∃ v', e = .returned v' ∧ OutB w0 w' v' (acc ++ txtT (.mk 1 n s kids)) ∧ Grew v v' w w' := by
 rw [txtT_num]
 have OW := qh own
 obtain ⟨h0, h1⟩ := okT_num_bd hok
 have hl := Lib.itoa_length_le n (by omega) (by omega)
 obtain ⟨A0, c0, rfl, _⟩ := own.slice
 clear own hok
 go_enter Tryz.func69, Tryz.ntmps69
 go_wp2_with fail
 refine (spec_Decimal n (by omega) (by omega) _).mono ?_
 rintro e w1 ⟨rfl, b1⟩
 have O1 := qh ((OW.out.alloc (.cells #[.int .i64 1, .int .i64 n, .string s, .slice A m c] 43)).below b1)
 have K1 : Hid (Below w.heap.size w w1) := qh (Below.trans zB (b1.mono (by simp)))
 clear b1
 generalize hL : Lib.itoa n = L at *
 have HL := qh hL
 clear hL
 go_wp2_with (at_builtin; refine wpList_outB_str rfl _ _ rfl rfl O1.out ⟨L.toArray⟩ rfl (by rw [str_size]; omega) ?_; intro v2 w2 own2 kp2)
 go_ret
 rw [HL.out]
 exact ⟨_, rfl, own2, (Grew.of_below K1.out).trans kp2⟩
theorem spec_say_var (room : Nat) (n : Int) (s : ByteArray) (A : Option Addr) (m c : Nat) (kids : List Tm) (w0 w : World) (v : Value) (acc : List UInt8) (hok : okT room (.mk 2 n s kids) = true) (own : OutB w0 w v acc) (hb : acc.length ≤ 60000000000) :
  Calls Tryz.prog 69 #[v, .agg #[.int .i64 2, .int .i64 n, .string s, .slice A m c]] w fun e w' => ∃ v', e = .returned v' ∧ OutB w0 w' v' (acc ++ txtT (.mk 2 n s kids)) ∧ Grew v v' w w' := by
 rw [txtT_var]
 have OW := qh own
 have hl : s.size ≤ 12 := by
  rw [okT_var, Bool.and_eq_true, Bool.and_eq_true] at hok
  have := name_len hok.1.2
  simpa using this
 obtain ⟨A0, c0, rfl, _⟩ := own.slice
 clear own hok
 go_enter Tryz.func69, Tryz.ntmps69
 go_wp2_with (at_builtin; refine wpList_outB_str rfl _ _ rfl rfl (OW.out.alloc _) s rfl (by omega) ?_; intro v2 w2 own2 kp2)
 go_ret
 exact ⟨_, rfl, own2, (Grew.of_below zB).trans kp2⟩
theorem spec_say_not (r : Nat) (hr : r ≤ 5) (n : Int) (s : ByteArray) (A : Option Addr) (c : Nat) (x : Tm) (ih : SyC x) (hx : okT r x = true) (w0 w : World) (v : Value) (acc : List UInt8) (row : TmRow AnyB w0 A [x]) (own : OutB w0 w v acc) (hb : acc.length + 30 * 2 ^ (r + 1) ≤ 50000000000) :
  Calls Tryz.prog 69 #[v, .agg #[.int .i64 8, .int .i64 n, .string s, .slice A 1 c]] w fun e w' => ∃ v', e = .returned v' ∧ OutB w0 w' v' (acc ++ txtT (.mk 8 n s [x])) ∧ Grew v v' w w' := by
 obtain ⟨F, hF⟩ : ∃ F, acc ++ txtT (.mk 8 n s [x]) = F := ⟨_, rfl⟩
 have HF : Hid (F = acc ++ [40, 110, 111, 116, 32] ++ txtT x ++ [41]) := qh (by rw [← hF, txtT_one]; simp)
 rw [hF]
 clear hF
 have hl := txt_len r x hx
 have hp : 2 ^ (r + 1) = 2 ^ r + 2 ^ r := by rw [Nat.pow_succ]; omega
 have hpos := Nat.two_pow_pos r
 have HX := qh hx
 rw [hp] at hb
 clear hp hx
 have OW0 := qh own
 have R0 := rd_term row (k := 0) (by simp)
 obtain ⟨b, off, k0, n0, s0, A0, m0, c0, rfl, _, e0, e1, e2, e3, t0⟩ := R0
 have T0 : Hid (TmIs AnyB w0 [.int .i64 k0, .int .i64 n0, .string s0, .slice A0 m0 c0] x) := qh t0
 have IH0 := qh ih
 simp only [Nat.zero_mul, Nat.add_zero] at e0 e1 e2 e3
 obtain ⟨Av, cv, rfl, _⟩ := own.slice
 clear own row t0 ih
 go_enter Tryz.func69, Tryz.ntmps69
 go_upto_region 7 with fail
 have hg : w.heap.size < (w.alloc (.cells #[.int .i64 8, .int .i64 n, .string s, .slice (some ⟨b, off, none⟩) 1 c] 43)).heap.size := by simp
 have OW : Hid (OutB w0 (w.alloc (.cells #[.int .i64 8, .int .i64 n, .string s, .slice (some ⟨b, off, none⟩) 1 c] 43)) (.slice Av acc.length cv) acc) := qh (OW0.out.alloc _)
 have K0 : Hid (Below w.heap.size w (w.alloc (.cells #[.int .i64 8, .int .i64 n, .string s, .slice (some ⟨b, off, none⟩) 1 c] 43))) := qh zB
 have sn : Sane 5 (w.alloc (.cells #[.int .i64 8, .int .i64 n, .string s, .slice (some ⟨b, off, none⟩) 1 c] 43)) w.heap.size := sane_new (by decide)
 obtain ⟨x0, x1, x2, x3⟩ : Box4 (w.alloc (.cells #[.int .i64 8, .int .i64 n, .string s, .slice (some ⟨b, off, none⟩) 1 c] 43)) w.heap.size (vt 8 n s (some ⟨b, off, none⟩) 1 c) := Box4.lit rfl
 simp only [vt] at x0 x1 x2 x3
 generalize w.alloc (.cells #[.int .i64 8, .int .i64 n, .string s, .slice (some ⟨b, off, none⟩) 1 c] 43) = w1 at *
 have oX := OW.out
 have gr := Grew.refl (.slice Av acc.length cv) w1
 have KS : Hid (∀ w', KeepT 5 w1 w' → Below w0.heap.size w0 w' → KeepT 5 w1 w' ∧ Below w0.heap.size w0 w' ∧ w'.cell? ⟨w.heap.size, 3, none⟩ = some (.slice (some ⟨b, off, none⟩) 1 c) ∧ w'.cell? ⟨b, off, none⟩ = some (.int .i64 k0) ∧ w'.cell? ⟨b, off + 1, none⟩ = some (.int .i64 n0) ∧ w'.cell? ⟨b, off + 2, none⟩ = some (.string s0) ∧ w'.cell? ⟨b, off + 3, none⟩ = some (.slice A0 m0 c0)) := qh (fun w' hk hb => ⟨hk, hb, KeepT.cellT hk sn x3, cell_keep hb e0, cell_keep hb e1, cell_keep hb e2, cell_keep hb e3⟩)
 go_region_held3 (fun w' => KeepT 5 w1 w' ∧ Below w0.heap.size w0 w' ∧ w'.cell? ⟨w.heap.size, 3, none⟩ = some (.slice (some ⟨b, off, none⟩) 1 c) ∧ w'.cell? ⟨b, off, none⟩ = some (.int .i64 k0) ∧ w'.cell? ⟨b, off + 1, none⟩ = some (.int .i64 n0) ∧ w'.cell? ⟨b, off + 2, none⟩ = some (.string s0) ∧ w'.cell? ⟨b, off + 3, none⟩ = some (.slice A0 m0 c0))
  (first | exact KS.out _ (KeepT.trans' (Grew.keepB gr OW.out) (KeepT.of_below' zB)) (below_then2 oX.own zB) | fail)
  (first
   | (refine step_outB_str (by rfl) _ _ (by rfl) (by rfl) (oX.below zB) ⟨#[40, 110, 111, 116, 32]⟩ (by rfl) (by simp only [ByteArray.size, List.size_toArray, List.length_cons, List.length_nil]; omega) ?_; intro vY wY oY kY; have gr := Grew.link gr zB kY; (try have li := (by first | exact Lies.grew li kY | exact Lies.grew (Lies.below li (Below.refl _ _).drew) kY | exact Lies.grew (Lies.new oX 41) kY | exact Lies.grew (Lies.below (Lies.new oX 41) (Below.refl _ _).drew) kY)); have oX := oY; clear oY kY)
   | (go_at_call 69; refine (IH0.out r _ _ _ _ _ _ w0 _ _ _ HX.out T0.out (oX.below zB) (by (try simp only [List.length_append, List.length_cons, List.length_nil]); omega) (by omega)).mono ?_; rintro e wY ⟨vY, rfl, oY, kY⟩; have gr := Grew.link gr zB kY; (try have li := (by first | exact Lies.grew li kY | exact Lies.grew (Lies.below li (Below.refl _ _).drew) kY | exact Lies.grew (Lies.new oX 41) kY | exact Lies.grew (Lies.below (Lies.new oX 41) (Below.refl _ _).drew) kY)); have oX := oY; clear oY kY)
   | (refine step_outB_some (by rfl) _ _ (by rfl) (by rfl) (oX.below zB) _ 1 1 [41] (by rfl) (by first | exact (Lies.new oX 41).rd | exact (Lies.new oX 41).rd.drew | exact li.rd | exact li.rd.drew) (by (try simp only [List.length_append, List.length_cons, List.length_nil]); omega) ?_; intro vY wY oY kY; have gr := Grew.link gr zB kY; (try have li := (by first | exact Lies.grew li kY | exact Lies.grew (Lies.below li (Below.refl _ _).drew) kY | exact Lies.grew (Lies.new oX 41) kY | exact Lies.grew (Lies.below (Lies.new oX 41) (Below.refl _ _).drew) kY)); have oX := oY; clear oY kY)
   | fail)
 all_goals
  go_wp2_with fail
  go_ret
  refine ⟨_, rfl, ?_, (Grew.of_below K0.out).trans gr⟩
  rw [HF.out]
  exact oX
theorem spec_say_two (r : Nat) (hr : r ≤ 5) (k n : Int) (hk : k = 3 ∨ k = 4 ∨ k = 5 ∨ k = 6 ∨ k = 7 ∨ k = 9) (s : ByteArray) (A : Option Addr) (c : Nat) (x y : Tm) (ih : SyC x) (ih' : SyC y) (hx : okT r x = true) (hy : okT r y = true) (w0 w : World) (v : Value) (acc : List UInt8) (row : TmRow AnyB w0 A [x, y]) (own : OutB w0 w v acc) (hb : acc.length + 30 * 2 ^ (r + 1) ≤ 50000000000) :
  Calls Tryz.prog 69 #[v, .agg #[.int .i64 k, .int .i64 n, .string s, .slice A 2 c]] w fun e w' => ∃ v', e = .returned v' ∧ OutB w0 w' v' (acc ++ txtT (.mk k n s [x, y])) ∧ Grew v v' w w' := by
 obtain ⟨h1, h2, h8⟩ := kinds_cases hk
 obtain ⟨F, hF⟩ : ∃ F, acc ++ txtT (.mk k n s [x, y]) = F := ⟨_, rfl⟩
 have HF : Hid (F = acc ++ [40] ++ txtT x ++ ([32] ++ signK k ++ [32]) ++ txtT y ++ [41]) := qh (by rw [← hF, txtT_two h1 h2 h8]; simp)
 rw [hF]
 clear hF
 have hlx := txt_len r x hx
 have hly := txt_len r y hy
 have hsk := signK_len k
 have hp : 2 ^ (r + 1) = 2 ^ r + 2 ^ r := by rw [Nat.pow_succ]; omega
 have hpos := Nat.two_pow_pos r
 have HX := qh hx
 have HY := qh hy
 have HK := qh hk
 have q1 : (k == 1) = false := beq_eq_false_iff_ne.2 h1
 have q2 : (k == 2) = false := beq_eq_false_iff_ne.2 h2
 have q8 : (k == 8) = false := beq_eq_false_iff_ne.2 h8
 rw [hp] at hb
 clear hp hx hy hk h1 h2 h8
 have OW0 := qh own
 have R0 := rd_term row (k := 0) (by simp)
 obtain ⟨b, off, k0, n0, s0, A0, m0, c0, rfl, _, e0, e1, e2, e3, t0⟩ := R0
 have T0 : Hid (TmIs AnyB w0 [.int .i64 k0, .int .i64 n0, .string s0, .slice A0 m0 c0] x) := qh t0
 have IH0 := qh ih
 obtain ⟨b', off', k1, n1, s1, A1, m1, c1, eA, _, g0, g1, g2, g3, t1⟩ := rd_term row (k := 1) (by simp)
 injection eA with eA
 injection eA with eA1 eA2
 subst eA1 eA2
 have T1 : Hid (TmIs AnyB w0 [.int .i64 k1, .int .i64 n1, .string s1, .slice A1 m1 c1] y) := qh t1
 have IH1 := qh ih'
 simp only [Nat.one_mul, Nat.add_assoc, Nat.reduceAdd] at g0 g1 g2 g3
 simp only [Nat.zero_mul, Nat.add_zero] at e0 e1 e2 e3
 obtain ⟨Av, cv, rfl, _⟩ := own.slice
 clear own row t0 ih t1 ih'
 go_enter Tryz.func69, Tryz.ntmps69
 go_upto_region 8 with fail
 have hg : w.heap.size < (w.alloc (.cells #[.int .i64 k, .int .i64 n, .string s, .slice (some ⟨b, off, none⟩) 2 c] 43)).heap.size := by simp
 have OW : Hid (OutB w0 (w.alloc (.cells #[.int .i64 k, .int .i64 n, .string s, .slice (some ⟨b, off, none⟩) 2 c] 43)) (.slice Av acc.length cv) acc) := qh (OW0.out.alloc _)
 have K0 : Hid (Below w.heap.size w (w.alloc (.cells #[.int .i64 k, .int .i64 n, .string s, .slice (some ⟨b, off, none⟩) 2 c] 43))) := qh zB
 have sn : Sane 5 (w.alloc (.cells #[.int .i64 k, .int .i64 n, .string s, .slice (some ⟨b, off, none⟩) 2 c] 43)) w.heap.size := sane_new (by decide)
 obtain ⟨x0, x1, x2, x3⟩ : Box4 (w.alloc (.cells #[.int .i64 k, .int .i64 n, .string s, .slice (some ⟨b, off, none⟩) 2 c] 43)) w.heap.size (vt k n s (some ⟨b, off, none⟩) 2 c) := Box4.lit rfl
 simp only [vt] at x0 x1 x2 x3
 generalize w.alloc (.cells #[.int .i64 k, .int .i64 n, .string s, .slice (some ⟨b, off, none⟩) 2 c] 43) = w1 at *
 have oX := OW.out
 have gr := Grew.refl (.slice Av acc.length cv) w1
 have KS : Hid (∀ w', KeepT 5 w1 w' → Below w0.heap.size w0 w' → KeepT 5 w1 w' ∧ Below w0.heap.size w0 w' ∧ w'.cell? ⟨w.heap.size, 3, none⟩ = some (.slice (some ⟨b, off, none⟩) 2 c) ∧ w'.cell? ⟨b, off, none⟩ = some (.int .i64 k0) ∧ w'.cell? ⟨b, off + 1, none⟩ = some (.int .i64 n0) ∧ w'.cell? ⟨b, off + 2, none⟩ = some (.string s0) ∧ w'.cell? ⟨b, off + 3, none⟩ = some (.slice A0 m0 c0)) := qh (fun w' hk hb => ⟨hk, hb, KeepT.cellT hk sn x3, cell_keep hb e0, cell_keep hb e1, cell_keep hb e2, cell_keep hb e3⟩)
 go_region_held3 (fun w' => KeepT 5 w1 w' ∧ Below w0.heap.size w0 w' ∧ w'.cell? ⟨w.heap.size, 3, none⟩ = some (.slice (some ⟨b, off, none⟩) 2 c) ∧ w'.cell? ⟨b, off, none⟩ = some (.int .i64 k0) ∧ w'.cell? ⟨b, off + 1, none⟩ = some (.int .i64 n0) ∧ w'.cell? ⟨b, off + 2, none⟩ = some (.string s0) ∧ w'.cell? ⟨b, off + 3, none⟩ = some (.slice A0 m0 c0))
  (first | exact KS.out _ (KeepT.trans' (Grew.keepB gr OW.out) (KeepT.of_below' zB)) (below_then2 oX.own zB) | fail)
  (first
   | (refine step_outB_some (by rfl) _ _ (by rfl) (by rfl) (oX.below zB) _ 1 1 [40] (by rfl) (by first | exact (Lies.new oX 40).rd | exact (Lies.new oX 40).rd.drew | exact li.rd | exact li.rd.drew) (by (try simp only [List.length_append, List.length_cons, List.length_nil]); omega) ?_; intro vY wY oY kY; have gr := Grew.link gr zB kY; (try have li := (by first | exact Lies.grew li kY | exact Lies.grew (Lies.below li (Below.refl _ _).drew) kY | exact Lies.grew (Lies.new oX 41) kY | exact Lies.grew (Lies.below (Lies.new oX 41) (Below.refl _ _).drew) kY)); have oX := oY; clear oY kY)
   | (go_at_call 69; refine (IH0.out r _ _ _ _ _ _ w0 _ _ _ HX.out T0.out (oX.below zB) (by (try simp only [List.length_append, List.length_cons, List.length_nil]); omega) (by omega)).mono ?_; rintro e wY ⟨vY, rfl, oY, kY⟩; have gr := Grew.link gr zB kY; (try have li := (by first | exact Lies.grew li kY | exact Lies.grew (Lies.below li (Below.refl _ _).drew) kY | exact Lies.grew (Lies.new oX 41) kY | exact Lies.grew (Lies.below (Lies.new oX 41) (Below.refl _ _).drew) kY)); have oX := oY; clear oY kY)
   | fail)
 have x0' := KeepT.cellT (Grew.keepB gr OW.out) sn x0
 clear KS
 have hsz : (signB k).size ≤ 3 := by have := signK_len k; unfold signK at this; simpa using this
 have HSg : Hid (((⟨#[32]⟩ : ByteArray) ++ signB k ++ ⟨#[32]⟩).data.toList = [32] ++ signK k ++ [32]) := qh (by unfold signK; simp)
 have hs3 : ((⟨#[32]⟩ : ByteArray) ++ signB k ++ ⟨#[32]⟩).size ≤ 5 := by
  have := HSg.out
  have h2 := congrArg List.length this
  rw [size_list] at h2
  have := signK_len k
  simp only [List.length_append, List.length_cons, List.length_nil] at h2
  omega
 have HS3 := qh hs3
 obtain ⟨L1, hL1⟩ : ∃ L, acc ++ [40] ++ txtT x = L := ⟨_, rfl⟩
 have hl1 : L1.length ≤ 50000000000 := by rw [← hL1]; simp only [List.length_append, List.length_cons, List.length_nil]; omega
 have HL1 := qh hL1
 rw [hL1] at oX
 clear hL1
 obtain ⟨Aw, cw, rfl, _⟩ := oX.slice
 have OX := qh oX
 have GR := qh gr
 clear oX gr hs3
 go_upto_region 9 with fail
 go_wp2_with fail
 refine (spec_l03Sign k HK.out _).mono ?_
 rintro e w3 ⟨rfl, b3⟩
 have O3 := qh (OX.out.below b3)
 have G3 := qh (GR.out.trans (Grew.of_below b3))
 have h1s : (1 : Nat) + (signB k).size ≤ 4 := by omega
 clear b3
 generalize hsb : signB k = sb at *
 have HSB := qh hsb
 clear hsb x0'
 go_wp2_with (at_builtin; refine wpList_outB_str rfl _ _ rfl rfl O3.out (⟨#[32]⟩ ++ sb ++ ⟨#[32]⟩) rfl (by have := HS3.out; omega) ?_; intro v4 w4 own4 kp4; have x3' := KeepT.cellT (Grew.keepB (G3.out.trans kp4) OW.out) sn x3; have z0 := cell_keep own4.own g0; have z1 := cell_keep own4.own g1; have z2 := cell_keep own4.own g2; have z3 := cell_keep own4.own g3; have O4 := qh own4; have G4 := qh (G3.out.trans kp4); clear own4 kp4)
 have FL : Hid ((L1 ++ ((⟨#[32]⟩ : ByteArray) ++ sb ++ ⟨#[32]⟩).data.toList).length ≤ 50000000010 ∧ F = L1 ++ ((⟨#[32]⟩ : ByteArray) ++ sb ++ ⟨#[32]⟩).data.toList ++ txtT y ++ [41]) := qh ⟨by have := HS3.out; rw [List.length_append, size_list]; omega, by rw [HF.out, ← HL1.out, HSg.out]⟩
 obtain ⟨L2, hL2⟩ : ∃ L, L1 ++ ((⟨#[32]⟩ : ByteArray) ++ sb ++ ⟨#[32]⟩).data.toList = L := ⟨_, rfl⟩
 rw [hL2] at O4 FL
 have hl2 := FL.out.1
 have hl2' : L2.length + 30 * 2 ^ r ≤ 50000000000 := by
  have h1 := HS3.out
  rw [← hL2, List.length_append, size_list, ← HL1.out]
  simp only [List.length_append, List.length_cons, List.length_nil]
  omega
 refine (IH1.out r _ _ _ _ _ _ w0 _ _ _ HY.out T1.out O4.out hl2' (by omega)).mono ?_
 rintro e w5 ⟨v5, rfl, o5, k5⟩
 obtain ⟨L3, hL3⟩ : ∃ L, L2 ++ txtT y = L := ⟨_, rfl⟩
 have hl3 : L3.length ≤ 60000000000 := by rw [← hL3, List.length_append]; omega
 have HF3 : Hid (F = L3 ++ [41]) := qh (by rw [FL.out.2, hL3])
 rw [hL3] at o5
 have O5 := qh o5
 have G5 := qh (G4.out.trans k5)
 obtain ⟨A5, c5, rfl, _⟩ := o5.slice
 clear o5 k5 hL3 hL2 x3' z0 z1 z2 z3
 go_wp2_with (at_builtin; refine wpList_outB_some rfl _ _ rfl rfl (O5.out.alloc _) _ 1 1 [41] rfl (Rd.new _ 1 1 _ _ rfl) (by omega) ?_; intro v6 w6 own6 kp6)
 go_ret
 rw [HF3.out]
 exact ⟨_, rfl, own6, (Grew.of_below K0.out).trans (Grew.link G5.out (Below.alloc (Below.refl _ _) (Nat.le_refl _) _) kp6)⟩
theorem spec_l03Say (t : Tm) : SyC t := by
 induction hN : nodes t using Nat.strongRecOn generalizing t with
 | ind N ih =>
  intro room k n s A m c w0 w v acc hok ht own hb hr
  obtain ⟨kids, rfl, rfl, hl, hc, _, _, _, row⟩ := ht.inv
  have hpos := Nat.two_pow_pos room
  by_cases h1 : k = 1
  ·subst h1; exact spec_say_num room n s A _ c kids w0 w v acc hok own (by omega)
  by_cases h2 : k = 2
  ·subst h2; exact spec_say_var room n s A _ c kids w0 w v acc hok own (by omega)
  obtain ⟨r, rfl, ⟨rfl, x, rfl, hx⟩ | ⟨hk, x, y, rfl, hx, hy⟩⟩ := okT_kids h1 h2 hok
  ·exact spec_say_not r (by omega) n s A c x (ih (nodes x) (by rw [← hN]; exact kid_lt (by simp)) x rfl) hx w0 w v acc row own hb
  ·exact spec_say_two r (by omega) k n hk s A c x y (ih (nodes x) (by rw [← hN]; exact kid_lt (by simp)) x rfl) (ih (nodes y) (by rw [← hN]; exact kid_lt (by simp)) y rfl) hx hy w0 w v acc row own hb
end Go.Proofs.YtnmblfonmfjoeaaGreatDoor
