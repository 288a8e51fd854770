/- Lemmas for the row. -/
import Derived.Test.YtnmblfonmfjoeaaGreatDoorKc15
namespace Go.Proofs.YtnmblfonmfjoeaaGreatDoor
open Go.RowKit
set_option maxHeartbeats 1600000
set_option linter.unusedVariables false
abbrev CdC (l : List St) : Prop := ∀ (A : Option Addr) (c : Nat) (left : Int) (w : World), StRow AnyB w A l → l.length ≤ c → c ≤ maxLen → -1 ≤ left → left ≤ 1048576 → Calls Tryz.prog 40 #[.slice A l.length c, .int .i64 left] w fun e w' => e = .returned (.int .i64 (cut0 (left - (snodess l : Int)))) ∧ Qt w w'
theorem cut0_eq (n : Int) : cut0 n = if n < 0 then -1 else n := by
 by_cases h : n < 0
 ·rw [if_pos h, cut0_neg h]
 ·rw [if_neg h, cut0_pos (by omega)]
theorem cut0_sub (a b : Int) (hb : 0 ≤ b) : cut0 (cut0 a - b) = cut0 (a - b) := by
 rw [cut0_eq, cut0_eq a, cut0_eq (a - b)]
 repeat' split
 all_goals omega
theorem cut0_le {a : Int} : -1 ≤ cut0 a ∧ (0 ≤ a → cut0 a = a) ∧ (a < 0 → cut0 a = -1) := by
 rw [cut0_eq]
 split <;> omega
theorem spec_l04Count_at (l : List St) (ih : ∀ g ∈ l, ∀ t k s body els, g = .mk k s t body els → CdC body ∧ CdC els) : CdC l := by
 intro A c left w row hl hc h0 h1
 unfold maxLen at hc
 have IH := qh ih
 have RW := qh row
 clear ih row
 go_enter Tryz.func40, Tryz.ntmps40
 go_wp2_with fail
 go_loopw [1, 5] (fun n i wr => ∃ j : Nat, j ≤ l.length ∧ i = .int .i64 j ∧ (∃ m : Int, -1 ≤ m ∧ m ≤ 1048576 ∧ n = .int .i64 m ∧ Hid (m = cut0 (left - (snodess (l.take j) : Int)))) ∧ Hid (Qt w wr)) (fun _ i _ => l.length - (intOf i).toNat)
 case atStart => exact ⟨0, Nat.zero_le _, rfl, ⟨left, h0, h1, rfl, qh (by simp only [List.take_zero, snodess]; rw [cut0_eq]; split <;> omega)⟩, qh (Qt.refl _)⟩
 case round =>
  obtain ⟨j, hj, rfl, ⟨m, hm1, hm2, rfl, HM⟩, HQ⟩ := hrel
  by_cases hlt : j < l.length
  case neg =>
   have hd : decide ((j : Int) < (l.length : Int)) = false := decide_no (by omega)
   go_wp2_with fail
   go_ret
   exact ⟨ret_int (by rw [HM.out, List.take_of_length_le (by omega)]), HQ.out⟩
  have hd : decide ((j : Int) < (l.length : Int)) = true := decide_eq_true (by omega)
  have hle := snodess_take_le l j
  by_cases hm : 0 ≤ m
  case neg =>
   have hd2 : decide (0 ≤ m) = false := decide_no hm
   have hm' : ¬ (0 ≤ m) := hm
   have HE : Hid (m = cut0 (left - (snodess l : Int))) := qh (by
    have := HM.out
    have q := @cut0_le (left - (snodess (l.take j) : Int))
    have q2 := @cut0_le (left - (snodess l : Int))
    omega)
   go_wp2_with fail
   go_ret
   exact ⟨ret_int HE.out, HQ.out⟩
  obtain ⟨b, off, x, rfl, _, ⟨d0, d1, d2, d3, d4, d5, d6, d7⟩, hg⟩ := rd_stmt (RW.out.qt HQ.out) hlt
  obtain ⟨t, body, els, heq, _, _, _, hb1, hb2, hb3, rb, he1, he2, he3, re⟩ := hg.inv
  have VB := qh (IH.out l[j] (List.getElem_mem hlt) t _ _ body els heq).1
  have VE := qh (IH.out l[j] (List.getElem_mem hlt) t _ _ body els heq).2
  have hsg : snodes l[j] = 1 + snodess body + snodess els := by rw [heq, snodes]
  have hst := snodess_take l j hlt
  have hle2 := snodess_take_le l (j + 1)
  have q1 := @cut0_le (m - 1 - (snodess body : Int))
  have HR : Hid (cut0 (cut0 (m - 1 - (snodess body : Int)) - (snodess els : Int)) = cut0 (left - (snodess (l.take (j + 1)) : Int))) := qh (by
   rw [cut0_sub _ _ (by omega)]
   have := HM.out
   have q := @cut0_le (left - (snodess (l.take j) : Int))
   have e : m = left - (snodess (l.take j) : Int) := by omega
   rw [e, hst, hsg]
   congr 1
   push_cast
   omega)
  have RB := qh rb
  have RE := qh re
  obtain ⟨xk, xs, tk, tn, ts, tA, tm, tc, bA, bm, bc, eA, em, ec⟩ := x
  simp only at hb1 he1 hb2 hb3 he2 he3 d6 d7 RB RE
  subst hb1 he1
  have h0k : (0 : Int) ≤ (j : Int) := by omega
  have h1k : (j : Int) < (l.length : Int) := by omega
  have b1 : cut0 (m - 1 - (snodess body : Int)) ≤ 1048576 := by omega
  have b2 := q1.1
  have b3 := @cut0_le (cut0 (m - 1 - (snodess body : Int)) - (snodess els : Int))
  have b4 : cut0 (cut0 (m - 1 - (snodess body : Int)) - (snodess els : Int)) ≤ 1048576 := by omega
  have B3 := qh b3.1
  have Q1 := qh q1
  have B4 := qh b4
  have w1 : IntKind.i64.wrap (m - 1) = m - 1 := IntWalk.i64_in _ (by omega)
  have hd2 : decide (0 ≤ m) = true := decide_eq_true hm
  clear hst hsg heq hg rb re d0 d1 d2 d3 d4 d5 hle2 q1 b3 b4
  go_wp2_with fail
  go_quiet ((first | (go_at_call 40; with_reducible exact quiet_qt (VB.out bA bc _ _ (RB.out.drewN _) hb2 hb3 (by omega) (by omega))) | (go_at_call 40; with_reducible exact quiet_qt (VE.out eA ec _ _ (RE.out.drewN _) he2 he3 b2 b1))))
  clear w1
  go_wp2_with fail
  go_roundw
  case rel => exact ⟨j + 1, by omega, by go_num, ⟨_, B3.out, B4.out, rfl, qh HR.out⟩, qh (HQ.out.trans (Qt.of_drewN _ _))⟩
  case measure => simp [intOf]; omega
theorem spec_l04Count (l : List St) : CdC l := by
 induction hN : snodess l using Nat.strongRecOn generalizing l with
 | ind N ih =>
  refine spec_l04Count_at l fun g hg t k s body els e => ?_
  have := snodess_le hg
  have h2 : snodes g = 1 + snodess body + snodess els := by rw [e, snodes]
  exact ⟨ih _ (by omega) body rfl, ih _ (by omega) els rfl⟩
theorem snodess_split (l : List St) (j : Nat) (h : j < l.length) : snodess (l.take j) + snodes l[j] ≤ snodess l := by
 have e : snodess l = snodess (l.take j) + snodess (l.drop j) := by rw [← snodess_append, List.take_append_drop]
 rw [List.drop_eq_getElem_cons h, snodess] at e
 omega
theorem OwnStrs.grew {w0 w w' : World} {u v v' : Value} {ss : List ByteArray} (h : OwnStrs w0 w u ss) (hg : Grew v v' w w') (hne : ∀ b, u.ownBlock = some b → v.ownBlock ≠ some b) (hv : ∀ b, v.ownBlock = some b → w0.heap.size ≤ b) : OwnStrs w0 w' u ss :=
 h.keepS hg.keep hne (fun b hb e => by have := hv b e; omega)
theorem OwnStrs.setB {w0 w : World} {v : Value} {ss : List ByteArray} {b o : Nat} (h : OwnStrs w0 w v ss) (hb : Sane 9 w b) (hw : w0.heap.size ≤ b) (u : Value) : OwnStrs w0 (w.setCell ⟨b, o, none⟩ u) v ss :=
 ⟨ownsRow_setCell_other h.1 (a := ⟨b, o, none⟩) (Own.neT h hb) u, Below.setCell h.2 hw u⟩
theorem impl_addOnceG (w0 w : World) (v : Value) (ss : List ByteArray) (x : ByteArray) (own : OwnStrs w0 w v ss) (hb : ss.length ≤ 10000000) :
  Calls Tryz.prog 76 #[v, .string x] w fun e w' => ∃ v', e = .returned v' ∧ OwnStrs w0 w' v' (addOnceP ss x) ∧ Grew v v' w w' := by
 have OW := qh own
 obtain ⟨A, c, rfl, hl⟩ := own.slice
 clear own
 cases h : hasS ss x with
 | true =>
  have HA := qh (addOnce_yes h)
  go_enter Tryz.func76, Tryz.ntmps76
  go_wp2_with fail
  refine (slices_Contains _ ss x _ OW.out.isStrs).mono ?_
  rintro e w1 ⟨rfl, rfl⟩
  rw [h]
  go_wp2_with fail
  go_ret
  exact ⟨_, rfl, by rw [HA.out]; exact OW.out, Grew.refl _ _⟩
 | false =>
  have HA := qh (addOnce_no h)
  go_enter Tryz.func76, Tryz.ntmps76
  go_wp2_with fail
  refine (slices_Contains _ ss x _ OW.out.isStrs).mono ?_
  rintro e w1 ⟨rfl, rfl⟩
  rw [h]
  go_wp2_with (at_builtin; refine wpList_appG_new w.heap.size rfl rfl _ _ _ rfl strT OW.out _ 1 rfl rfl rfl (by simp [Value.oneCell']) (by simp only [maxLen]; omega) (by omega) ?_; intro v3 w3 own3 kp3)
  go_ret
  refine ⟨_, rfl, ?_, kp3⟩
  rw [HA.out]
  unfold OwnStrs
  rw [List.length_append, ← map_snoc]
  exact own3
def addUnk (known acc : List ByteArray) (x : ByteArray) : List ByteArray := if hasS known x = true then acc else addOnceP acc x
theorem addUnk_known {known acc : List ByteArray} {x : ByteArray} (h : hasS known x = true) : addUnk known acc x = acc := by simp [addUnk, h]
theorem addUnk_there {known acc : List ByteArray} {x : ByteArray} (h : hasS known x = false) (h2 : hasS acc x = true) : addUnk known acc x = acc := by simp [addUnk, h, addOnce_yes h2]
theorem addUnk_once {known acc : List ByteArray} {x : ByteArray} (h : hasS known x = false) : addUnk known acc x = addOnceP acc x := by simp [addUnk, h]
theorem addUnk_new {known acc : List ByteArray} {x : ByteArray} (h : hasS known x = false) (h2 : hasS acc x = false) : addUnk known acc x = acc ++ [x] := by simp [addUnk, h, addOnce_no h2]
theorem addUnk_len (known acc : List ByteArray) (x : ByteArray) : (addUnk known acc x).length ≤ acc.length + 1 := by
 unfold addUnk
 split
 ·omega
 ·exact addOnce_len acc x
theorem spec_l07Add (w0 w : World) (v kv : Value) (acc known : List ByteArray) (x : ByteArray) (own : OwnStrs w0 w v acc) (hk : IsStrs w kv known) (hb : acc.length ≤ 10000000) :
  Calls Tryz.prog 102 #[v, kv, .string x] w fun e w' => ∃ v', e = .returned v' ∧ OwnStrs w0 w' v' (addUnk known acc x) ∧ Grew v v' w w' := by
 have OW := qh own
 have KV := qh hk
 obtain ⟨A, c, rfl, hl⟩ := own.slice
 obtain ⟨A2, c2, rfl, _⟩ := hk
 clear own
 cases h : hasS known x with
 | true =>
  have HA := qh (addUnk_known (acc := acc) h)
  go_enter Tryz.func102, Tryz.ntmps102
  go_wp2_with fail
  refine (spec_l04Has _ known x _ KV.out).mono ?_
  rintro e w1 ⟨rfl, rfl⟩
  rw [h]
  clear h
  go_wp2_with fail
  go_ret
  exact ⟨_, rfl, by rw [HA.out]; exact OW.out, Grew.refl _ _⟩
 | false =>
  cases h2 : hasS acc x with
  | true =>
   have HA := qh (addUnk_there h h2)
   go_enter Tryz.func102, Tryz.ntmps102
   go_wp2_with fail
   refine (spec_l04Has _ known x _ KV.out).mono ?_
   rintro e w1 ⟨rfl, rfl⟩
   rw [h]
   clear h
   go_wp2_with fail
   refine (spec_l04Has _ acc x _ OW.out.isStrs).mono ?_
   rintro e w1 ⟨rfl, rfl⟩
   rw [h2]
   clear h2
   go_wp2_with fail
   go_ret
   exact ⟨_, rfl, by rw [HA.out]; exact OW.out, Grew.refl _ _⟩
  | false =>
   have HA := qh (addUnk_new h h2)
   go_enter Tryz.func102, Tryz.ntmps102
   go_wp2_with fail
   refine (spec_l04Has _ known x _ KV.out).mono ?_
   rintro e w1 ⟨rfl, rfl⟩
   rw [h]
   clear h
   go_wp2_with fail
   refine (spec_l04Has _ acc x _ OW.out.isStrs).mono ?_
   rintro e w1 ⟨rfl, rfl⟩
   rw [h2]
   clear h2
   go_wp2_with (at_builtin; refine wpList_appG_new w.heap.size rfl rfl _ _ _ rfl strT OW.out _ 1 rfl rfl rfl (by simp [Value.oneCell']) (by simp only [maxLen]; omega) (by omega) ?_; intro v3 w3 own3 kp3)
   go_ret
   refine ⟨_, rfl, ?_, kp3⟩
   rw [HA.out]
   unfold OwnStrs
   rw [List.length_append, ← map_snoc]
   exact own3
def shapeB (k : Int) (nm se ok zr be ee : Bool) : Bool :=
 if k = 1 then nm && ok && be && ee else if k = 2 then se && ok else if k = 3 then se && ok && ee else if k = 4 ∨ k = 5 ∨ k = 6 ∨ k = 7 then nm && zr && be && ee else if k = 8 then se && zr && be && ee else false
noncomputable def shapeG : St → Bool
 | .mk k s t b e => shapeB k (isNameL s.data.toList) s.toList.isEmpty (okT 6 t) (sameB t zeroTm) ((b.length : Int) == 0) ((e.length : Int) == 0)
theorem sum_cases (a b : Nat) : (((a : Int) == 0) = true ∧ ((b : Int) == 0) = true ∧ ((a : Int) + (b : Int) == 0) = true) ∨ (((a : Int) == 0) = true ∧ ((b : Int) == 0) = false ∧ ((a : Int) + (b : Int) == 0) = false) ∨ (((a : Int) == 0) = false ∧ ((b : Int) == 0) = true ∧ ((a : Int) + (b : Int) == 0) = false) ∨ (((a : Int) == 0) = false ∧ ((b : Int) == 0) = false ∧ ((a : Int) + (b : Int) == 0) = false) := by
 simp only [beq_iff_eq, beq_eq_false_iff_ne]; omega
theorem box8 {w : World} {n : Nat} {a b c d e f g h : Value} (x : BoxB w n [a, b, c, d, e, f, g, h]) : w.cell? ⟨n, 0, none⟩ = some a ∧ w.cell? ⟨n, 1, none⟩ = some b ∧ w.cell? ⟨n, 2, none⟩ = some c ∧ w.cell? ⟨n, 3, none⟩ = some d ∧ w.cell? ⟨n, 4, none⟩ = some e ∧ w.cell? ⟨n, 5, none⟩ = some f ∧ w.cell? ⟨n, 6, none⟩ = some g ∧ w.cell? ⟨n, 7, none⟩ = some h :=
 ⟨x 0 _ rfl, x 1 _ rfl, x 2 _ rfl, x 3 _ rfl, x 4 _ rfl, x 5 _ rfl, x 6 _ rfl, x 7 _ rfl⟩
theorem kidT_zero {w : World} : TmIs AnyB w [.int .i64 0, .int .i64 0, .string ByteArray.empty, .slice none 0 0] zeroTm := TmIs.mk' (kids := []) (by unfold i64in; omega) (by unfold i64in; omega) (by simp [maxLen]) (by simp) (by simp [maxLen]) ⟨[], Rd.nil, fun _ _ _ h => absurd h (by simp), fun i h => absurd h (by simp)⟩
abbrev ShI (K : Int) : Prop := ∀ (s : ByteArray) (t : Tm) (tk tn : Int) (ts : ByteArray) (tA : Option Addr) (tm tc : Nat) (bA : Option Addr) (bc : Nat) (eA : Option Addr) (ec : Nat) (body els : List St) (w : World) (ht : TmIs AnyB w [.int .i64 tk, .int .i64 tn, .string ts, .slice tA tm tc] t) (hb : body.length ≤ 1048576) (he : els.length ≤ 1048576), Calls Tryz.prog 99 #[.agg #[.int .i64 K, .string s, .int .i64 tk, .int .i64 tn, .string ts, .slice tA tm tc, .slice bA body.length bc, .slice eA els.length ec]] w fun e w' => e = .returned (.bool (shapeB K (isNameL s.data.toList) (s.toList.isEmpty) (okT 6 t) (sameB t zeroTm) ((body.length : Int) == 0) ((els.length : Int) == 0))) ∧ Below w.heap.size w w'
abbrev ShS (K : Int) : Prop := ∀ (s : ByteArray) (t : Tm) (tk tn : Int) (ts : ByteArray) (tA : Option Addr) (tm tc : Nat) (bA : Option Addr) (bc : Nat) (eA : Option Addr) (ec : Nat) (body els : List St) (w : World) (ht : TmIs AnyB w [.int .i64 tk, .int .i64 tn, .string ts, .slice tA tm tc] t) (hb : body.length ≤ 1048576) (he : els.length ≤ 1048576), Calls Tryz.prog 109 #[.agg #[.int .i64 K, .string s, .int .i64 tk, .int .i64 tn, .string ts, .slice tA tm tc, .slice bA body.length bc, .slice eA els.length ec]] w fun e w' => e = .returned (.bool (shapeB K (isNameL s.data.toList) (s.toList.isEmpty) (okT 6 t) (sameB t zeroTm) ((body.length : Int) == 0) ((els.length : Int) == 0))) ∧ Below w.heap.size w w'
theorem impl_shape_1 : ShI 1 := by
 intro s t tk tn ts tA tm tc bA bc eA ec body els w ht hb he
 have HT := qh ht
 clear ht
 go_enter Tryz.func99, Tryz.ntmps99
 go_wp2_with fail
 refine (impl_IsName s _).mono ?_
 rintro e wn ⟨rfl, rfl⟩
 cases h1 : isNameL s.data.toList
 ·go_wp2_with fail
  go_ret
  exact ⟨ret_bool (by simp [shapeB, h1]), zB⟩
 go_wp2_with fail
 refine (impl_TermOk t tk tn ts tA tm tc _ (HT.out.belowA zB)).mono ?_
 rintro e w1 ⟨rfl, b1⟩
 have H1 : Hid (Below w.heap.size w w1) := qh (Below.trans zB (b1.mono (by simp)))
 have BX1 : Hid (BoxB w1 w.heap.size [.int .i64 1, .string s, .int .i64 tk, .int .i64 tn, .string ts, .slice tA tm tc, .slice bA body.length bc, .slice eA els.length ec]) := qh (BoxB.below (BoxB.lit rfl) b1)
 clear b1
 obtain ⟨x0, x1, x2, x3, x4, x5, x6, x7⟩ := box8 BX1.out
 cases h3 : okT 6 t
 ·go_wp2_with fail
  go_ret
  exact ⟨ret_bool (by simp [shapeB, h1, h3]), H1.out⟩
 cases h5 : ((body.length : Int) == 0) <;> cases h6 : ((els.length : Int) == 0)
 all_goals
  go_wp2_with fail
  go_ret
  exact ⟨ret_bool (by simp [shapeB, h1, h3, h5, h6]), H1.out⟩
theorem impl_shape_2 : ShI 2 := by
 intro s t tk tn ts tA tm tc bA bc eA ec body els w ht hb he
 have HT := qh ht
 clear ht
 cases h2 : s.toList.isEmpty
 ·go_enter Tryz.func99, Tryz.ntmps99
  go_wp2_with fail
  go_ret
  exact ⟨ret_bool (by simp [shapeB, h2]), zB⟩
 go_enter Tryz.func99, Tryz.ntmps99
 go_wp2_with fail
 refine (impl_TermOk t tk tn ts tA tm tc _ (HT.out.belowA zB)).mono ?_
 rintro e w1 ⟨rfl, b1⟩
 have H1 : Hid (Below w.heap.size w w1) := qh (Below.trans zB (b1.mono (by simp)))
 have BX1 : Hid (BoxB w1 w.heap.size [.int .i64 2, .string s, .int .i64 tk, .int .i64 tn, .string ts, .slice tA tm tc, .slice bA body.length bc, .slice eA els.length ec]) := qh (BoxB.below (BoxB.lit rfl) b1)
 clear b1
 obtain ⟨x0, x1, x2, x3, x4, x5, x6, x7⟩ := box8 BX1.out
 cases h3 : okT 6 t
 ·go_wp2_with fail
  go_ret
  exact ⟨ret_bool (by simp [shapeB, h2, h3]), H1.out⟩
 go_wp2_with fail
 go_ret
 exact ⟨ret_bool (by simp [shapeB, h2, h3]), H1.out⟩
theorem impl_shape_3 : ShI 3 := by
 intro s t tk tn ts tA tm tc bA bc eA ec body els w ht hb he
 have HT := qh ht
 clear ht
 cases h2 : s.toList.isEmpty
 ·go_enter Tryz.func99, Tryz.ntmps99
  go_wp2_with fail
  go_ret
  exact ⟨ret_bool (by simp [shapeB, h2]), zB⟩
 go_enter Tryz.func99, Tryz.ntmps99
 go_wp2_with fail
 refine (impl_TermOk t tk tn ts tA tm tc _ (HT.out.belowA zB)).mono ?_
 rintro e w1 ⟨rfl, b1⟩
 have H1 : Hid (Below w.heap.size w w1) := qh (Below.trans zB (b1.mono (by simp)))
 have BX1 : Hid (BoxB w1 w.heap.size [.int .i64 3, .string s, .int .i64 tk, .int .i64 tn, .string ts, .slice tA tm tc, .slice bA body.length bc, .slice eA els.length ec]) := qh (BoxB.below (BoxB.lit rfl) b1)
 clear b1
 obtain ⟨x0, x1, x2, x3, x4, x5, x6, x7⟩ := box8 BX1.out
 cases h3 : okT 6 t
 ·go_wp2_with fail
  go_ret
  exact ⟨ret_bool (by simp [shapeB, h2, h3]), H1.out⟩
 cases h6 : ((els.length : Int) == 0)
 all_goals
  go_wp2_with fail
  go_ret
  exact ⟨ret_bool (by simp [shapeB, h2, h3, h6]), H1.out⟩
theorem impl_shape_4 (K : Int) (hK : K = 4 ∨ K = 5 ∨ K = 6 ∨ K = 7) : ShI K := by
 intro s t tk tn ts tA tm tc bA bc eA ec body els w ht hb he
 have HT := qh ht
 clear ht
 rcases hK with rfl | rfl | rfl | rfl
 all_goals
  go_enter Tryz.func99, Tryz.ntmps99
  go_wp2_with fail
  refine (impl_IsName s _).mono ?_
  rintro e wn ⟨rfl, rfl⟩
  cases h1 : isNameL s.data.toList
  ·go_wp2_with fail
   go_ret
   exact ⟨ret_bool (by simp [shapeB, h1]), zB⟩
  go_wp2_with fail
  refine (impl_isZeroTerm t tk tn ts tA tm tc _ (HT.out.belowA zB)).mono ?_
  rintro e w1 ⟨rfl, b1⟩
  have H1 : Hid (Below w.heap.size w w1) := qh (Below.trans zB (b1.mono (by simp)))
  have BX1 : Hid (BoxB w1 w.heap.size [.int .i64 _, .string s, .int .i64 tk, .int .i64 tn, .string ts, .slice tA tm tc, .slice bA body.length bc, .slice eA els.length ec]) := qh (BoxB.below (BoxB.lit rfl) b1)
  clear b1
  obtain ⟨x0, x1, x2, x3, x4, x5, x6, x7⟩ := box8 BX1.out
  cases h4 : sameB t zeroTm
  ·go_wp2_with fail
   go_ret
   exact ⟨ret_bool (by simp [shapeB, h1, h4]), H1.out⟩
  cases h5 : ((body.length : Int) == 0) <;> cases h6 : ((els.length : Int) == 0)
  all_goals
   go_wp2_with fail
   go_ret
   exact ⟨ret_bool (by simp [shapeB, h1, h4, h5, h6]), H1.out⟩
theorem impl_shape_8 : ShI 8 := by
 intro s t tk tn ts tA tm tc bA bc eA ec body els w ht hb he
 have HT := qh ht
 clear ht
 cases h2 : s.toList.isEmpty
 ·go_enter Tryz.func99, Tryz.ntmps99
  go_wp2_with fail
  go_ret
  exact ⟨ret_bool (by simp [shapeB, h2]), zB⟩
 go_enter Tryz.func99, Tryz.ntmps99
 go_wp2_with fail
 refine (impl_isZeroTerm t tk tn ts tA tm tc _ (HT.out.belowA zB)).mono ?_
 rintro e w1 ⟨rfl, b1⟩
 have H1 : Hid (Below w.heap.size w w1) := qh (Below.trans zB (b1.mono (by simp)))
 have BX1 : Hid (BoxB w1 w.heap.size [.int .i64 8, .string s, .int .i64 tk, .int .i64 tn, .string ts, .slice tA tm tc, .slice bA body.length bc, .slice eA els.length ec]) := qh (BoxB.below (BoxB.lit rfl) b1)
 clear b1
 obtain ⟨x0, x1, x2, x3, x4, x5, x6, x7⟩ := box8 BX1.out
 cases h4 : sameB t zeroTm
 ·go_wp2_with fail
  go_ret
  exact ⟨ret_bool (by simp [shapeB, h2, h4]), H1.out⟩
 cases h5 : ((body.length : Int) == 0) <;> cases h6 : ((els.length : Int) == 0)
 all_goals
  go_wp2_with fail
  go_ret
  exact ⟨ret_bool (by simp [shapeB, h2, h4, h5, h6]), H1.out⟩
theorem spec_shape_1 : ShS 1 := by
 intro s t tk tn ts tA tm tc bA bc eA ec body els w ht hb he
 have HT := qh ht
 clear ht
 go_enter Tryz.func109, Tryz.ntmps109
 go_wp2_with fail
 refine (spec_SameTerm t zeroTm tk tn ts tA tm tc 0 0 ByteArray.empty none 0 0 _ (HT.out.belowA zB) kidT_zero).mono ?_
 rintro e w1 ⟨rfl, b1⟩
 have H1 : Hid (Below w.heap.size w w1) := qh (Below.trans zB (b1.mono (by simp)))
 have BX1 : Hid (BoxB w1 w.heap.size [.int .i64 1, .string s, .int .i64 tk, .int .i64 tn, .string ts, .slice tA tm tc, .slice bA body.length bc, .slice eA els.length ec]) := qh (BoxB.below (BoxB.lit rfl) b1)
 clear b1
 obtain ⟨x0, x1, x2, x3, x4, x5, x6, x7⟩ := box8 BX1.out
 cases h4 : sameB t zeroTm
 all_goals
  go_wp2_with fail
  refine (spec_IsName s _).mono ?_
  rintro e wn ⟨rfl, rfl⟩
  cases h1 : isNameL s.data.toList
  ·go_wp2_with fail
   go_ret
   exact ⟨ret_bool (by simp [shapeB, h1]), H1.out⟩
  go_wp2_with fail
  refine (spec_TermOk t tk tn ts tA tm tc _ (HT.out.belowA H1.out)).mono ?_
  rintro e w2 ⟨rfl, b2⟩
  have H2 := qh (below_then H1.out b2)
  have BX2 := qh (BX1.out.below b2)
  clear b2 x0 x1 x2 x3 x4 x5 x6 x7
  obtain ⟨x0, x1, x2, x3, x4, x5, x6, x7⟩ := box8 BX2.out
  cases h3 : okT 6 t
  ·go_wp2_with fail
   go_ret
   exact ⟨ret_bool (by simp [shapeB, h1, h3]), H2.out⟩
  rcases sum_cases body.length els.length with ⟨h5, h6, h7⟩ | ⟨h5, h6, h7⟩ | ⟨h5, h6, h7⟩ | ⟨h5, h6, h7⟩
  all_goals
   go_wp2_with fail
   go_ret
   exact ⟨ret_bool (by simp [shapeB, h1, h3, h5, h6]), H2.out⟩
theorem spec_shape_2 : ShS 2 := by
 intro s t tk tn ts tA tm tc bA bc eA ec body els w ht hb he
 have HT := qh ht
 clear ht
 go_enter Tryz.func109, Tryz.ntmps109
 go_wp2_with fail
 refine (spec_SameTerm t zeroTm tk tn ts tA tm tc 0 0 ByteArray.empty none 0 0 _ (HT.out.belowA zB) kidT_zero).mono ?_
 rintro e w1 ⟨rfl, b1⟩
 have H1 : Hid (Below w.heap.size w w1) := qh (Below.trans zB (b1.mono (by simp)))
 have BX1 : Hid (BoxB w1 w.heap.size [.int .i64 2, .string s, .int .i64 tk, .int .i64 tn, .string ts, .slice tA tm tc, .slice bA body.length bc, .slice eA els.length ec]) := qh (BoxB.below (BoxB.lit rfl) b1)
 clear b1
 obtain ⟨x0, x1, x2, x3, x4, x5, x6, x7⟩ := box8 BX1.out
 cases h4 : sameB t zeroTm
 all_goals
  cases h2 : s.toList.isEmpty
  ·go_wp2_with fail
   go_ret
   exact ⟨ret_bool (by simp [shapeB, h2]), H1.out⟩
  go_wp2_with fail
  refine (spec_TermOk t tk tn ts tA tm tc _ (HT.out.belowA H1.out)).mono ?_
  rintro e w2 ⟨rfl, b2⟩
  have H2 := qh (below_then H1.out b2)
  have BX2 := qh (BX1.out.below b2)
  clear b2 x0 x1 x2 x3 x4 x5 x6 x7
  obtain ⟨x0, x1, x2, x3, x4, x5, x6, x7⟩ := box8 BX2.out
  cases h3 : okT 6 t
  ·go_wp2_with fail
   go_ret
   exact ⟨ret_bool (by simp [shapeB, h2, h3]), H2.out⟩
  go_wp2_with fail
  go_ret
  exact ⟨ret_bool (by simp [shapeB, h2, h3]), H2.out⟩
theorem spec_shape_3 : ShS 3 := by
 intro s t tk tn ts tA tm tc bA bc eA ec body els w ht hb he
 have HT := qh ht
 clear ht
 go_enter Tryz.func109, Tryz.ntmps109
 go_wp2_with fail
 refine (spec_SameTerm t zeroTm tk tn ts tA tm tc 0 0 ByteArray.empty none 0 0 _ (HT.out.belowA zB) kidT_zero).mono ?_
 rintro e w1 ⟨rfl, b1⟩
 have H1 : Hid (Below w.heap.size w w1) := qh (Below.trans zB (b1.mono (by simp)))
 have BX1 : Hid (BoxB w1 w.heap.size [.int .i64 3, .string s, .int .i64 tk, .int .i64 tn, .string ts, .slice tA tm tc, .slice bA body.length bc, .slice eA els.length ec]) := qh (BoxB.below (BoxB.lit rfl) b1)
 clear b1
 obtain ⟨x0, x1, x2, x3, x4, x5, x6, x7⟩ := box8 BX1.out
 cases h4 : sameB t zeroTm
 all_goals
  cases h2 : s.toList.isEmpty
  ·go_wp2_with fail
   go_ret
   exact ⟨ret_bool (by simp [shapeB, h2]), H1.out⟩
  go_wp2_with fail
  refine (spec_TermOk t tk tn ts tA tm tc _ (HT.out.belowA H1.out)).mono ?_
  rintro e w2 ⟨rfl, b2⟩
  have H2 := qh (below_then H1.out b2)
  have BX2 := qh (BX1.out.below b2)
  clear b2 x0 x1 x2 x3 x4 x5 x6 x7
  obtain ⟨x0, x1, x2, x3, x4, x5, x6, x7⟩ := box8 BX2.out
  cases h3 : okT 6 t
  ·go_wp2_with fail
   go_ret
   exact ⟨ret_bool (by simp [shapeB, h2, h3]), H2.out⟩
  cases h6 : ((els.length : Int) == 0)
  all_goals
   go_wp2_with fail
   go_ret
   exact ⟨ret_bool (by simp [shapeB, h2, h3, h6]), H2.out⟩
theorem spec_shape_4 (K : Int) (hK : K = 4 ∨ K = 5 ∨ K = 6 ∨ K = 7) : ShS K := by
 intro s t tk tn ts tA tm tc bA bc eA ec body els w ht hb he
 have HT := qh ht
 clear ht
 rcases hK with rfl | rfl | rfl | rfl
 all_goals
  go_enter Tryz.func109, Tryz.ntmps109
  go_wp2_with fail
  refine (spec_SameTerm t zeroTm tk tn ts tA tm tc 0 0 ByteArray.empty none 0 0 _ (HT.out.belowA zB) kidT_zero).mono ?_
  rintro e w1 ⟨rfl, b1⟩
  have H1 : Hid (Below w.heap.size w w1) := qh (Below.trans zB (b1.mono (by simp)))
  have BX1 : Hid (BoxB w1 w.heap.size [.int .i64 _, .string s, .int .i64 tk, .int .i64 tn, .string ts, .slice tA tm tc, .slice bA body.length bc, .slice eA els.length ec]) := qh (BoxB.below (BoxB.lit rfl) b1)
  clear b1
  obtain ⟨x0, x1, x2, x3, x4, x5, x6, x7⟩ := box8 BX1.out
  cases h4 : sameB t zeroTm
  all_goals
   go_wp2_with fail
   refine (spec_IsName s _).mono ?_
   rintro e wn ⟨rfl, rfl⟩
   cases h1 : isNameL s.data.toList
   ·go_wp2_with fail
    go_ret
    exact ⟨ret_bool (by simp [shapeB, h1]), H1.out⟩
   rcases sum_cases body.length els.length with ⟨h5, h6, h7⟩ | ⟨h5, h6, h7⟩ | ⟨h5, h6, h7⟩ | ⟨h5, h6, h7⟩
   all_goals
    go_wp2_with fail
    go_ret
    exact ⟨ret_bool (by simp [shapeB, h1, h4, h5, h6]), H1.out⟩
theorem spec_shape_8 : ShS 8 := by
 intro s t tk tn ts tA tm tc bA bc eA ec body els w ht hb he
 have HT := qh ht
 clear ht
 go_enter Tryz.func109, Tryz.ntmps109
 go_wp2_with fail
 refine (spec_SameTerm t zeroTm tk tn ts tA tm tc 0 0 ByteArray.empty none 0 0 _ (HT.out.belowA zB) kidT_zero).mono ?_
 rintro e w1 ⟨rfl, b1⟩
 have H1 : Hid (Below w.heap.size w w1) := qh (Below.trans zB (b1.mono (by simp)))
 have BX1 : Hid (BoxB w1 w.heap.size [.int .i64 8, .string s, .int .i64 tk, .int .i64 tn, .string ts, .slice tA tm tc, .slice bA body.length bc, .slice eA els.length ec]) := qh (BoxB.below (BoxB.lit rfl) b1)
 clear b1
 obtain ⟨x0, x1, x2, x3, x4, x5, x6, x7⟩ := box8 BX1.out
 cases h4 : sameB t zeroTm
 all_goals
  cases h2 : s.toList.isEmpty
  ·go_wp2_with fail
   go_ret
   exact ⟨ret_bool (by simp [shapeB, h2]), H1.out⟩
  rcases sum_cases body.length els.length with ⟨h5, h6, h7⟩ | ⟨h5, h6, h7⟩ | ⟨h5, h6, h7⟩ | ⟨h5, h6, h7⟩
  all_goals
   go_wp2_with fail
   go_ret
   exact ⟨ret_bool (by simp [shapeB, h2, h4, h5, h6]), H1.out⟩
theorem impl_shape_no (K : Int) (s : ByteArray) (t : Tm) (tk tn : Int) (ts : ByteArray) (tA : Option Addr) (tm tc : Nat) (bA : Option Addr) (bc : Nat) (eA : Option Addr) (ec : Nat) (body els : List St) (w : World) (ht : TmIs AnyB w [.int .i64 tk, .int .i64 tn, .string ts, .slice tA tm tc] t) (hb : body.length ≤ 1048576) (he : els.length ≤ 1048576) (n1 : (K == 1) = false) (n2 : (K == 2) = false) (n3 : (K == 3) = false) (n4 : (K == 4) = false) (n5 : (K == 5) = false) (n6 : (K == 6) = false) (n7 : (K == 7) = false) (n8 : (K == 8) = false) :
  Calls Tryz.prog 99 #[.agg #[.int .i64 K, .string s, .int .i64 tk, .int .i64 tn, .string ts, .slice tA tm tc, .slice bA body.length bc, .slice eA els.length ec]] w fun e w' => e = .returned (.bool false) ∧ Below w.heap.size w w' := by
 have HT := qh ht
 clear ht
 go_enter Tryz.func99, Tryz.ntmps99
 go_wp2_with fail
 go_ret
 exact ⟨rfl, zB⟩
theorem spec_shape_no (K : Int) (s : ByteArray) (t : Tm) (tk tn : Int) (ts : ByteArray) (tA : Option Addr) (tm tc : Nat) (bA : Option Addr) (bc : Nat) (eA : Option Addr) (ec : Nat) (body els : List St) (w : World) (ht : TmIs AnyB w [.int .i64 tk, .int .i64 tn, .string ts, .slice tA tm tc] t) (hb : body.length ≤ 1048576) (he : els.length ≤ 1048576) (n1 : (K == 1) = false) (n2 : (K == 2) = false) (n3 : (K == 3) = false) (n4 : (K == 4) = false) (n5 : (K == 5) = false) (n6 : (K == 6) = false) (n7 : (K == 7) = false) (n8 : (K == 8) = false) :
  Calls Tryz.prog 109 #[.agg #[.int .i64 K, .string s, .int .i64 tk, .int .i64 tn, .string ts, .slice tA tm tc, .slice bA body.length bc, .slice eA els.length ec]] w fun e w' => e = .returned (.bool false) ∧ Below w.heap.size w w' := by
 have HT := qh ht
 clear ht
 cases h4 : sameB t zeroTm
 all_goals
  go_enter Tryz.func109, Tryz.ntmps109
  go_wp2_with fail
  refine (spec_SameTerm t zeroTm tk tn ts tA tm tc 0 0 ByteArray.empty none 0 0 _ (HT.out.belowA zB) kidT_zero).mono ?_
  rintro e w1 ⟨rfl, b1⟩
  have H1 : Hid (Below w.heap.size w w1) := qh (Below.trans zB (b1.mono (by simp)))
  have BX1 : Hid (BoxB w1 w.heap.size [.int .i64 K, .string s, .int .i64 tk, .int .i64 tn, .string ts, .slice tA tm tc, .slice bA body.length bc, .slice eA els.length ec]) := qh (BoxB.below (BoxB.lit rfl) b1)
  clear b1
  obtain ⟨x0, x1, x2, x3, x4, x5, x6, x7⟩ := box8 BX1.out
  rw [h4]
  go_wp2_with fail
  go_ret
  exact ⟨rfl, H1.out⟩
theorem impl_shape (g : St) (x : V8) (w : World) (hg : StIs AnyB w x g) (hb : x.bm ≤ 1048576) (he : x.em ≤ 1048576) :
  Calls Tryz.prog 99 #[.agg #[.int .i64 x.k, .string x.s, .int .i64 x.tk, .int .i64 x.tn, .string x.ts, .slice x.tA x.tm x.tc, .slice x.bA x.bm x.bc, .slice x.eA x.em x.ec]] w fun e w' => e = .returned (.bool (shapeG g)) ∧ Below w.heap.size w w' := by
 obtain ⟨t, body, els, rfl, _, _, ht, hb1, _, _, _, he1, _, _, _⟩ := hg.inv
 obtain ⟨k, s, tk, tn, ts, tA, tm, tc, bA, bm, bc, eA, em, ec⟩ := x
 simp only at hb1 he1 hb he
 simp only [shapeG]
 subst hb1 he1
 have ht' : TmIs AnyB w [.int .i64 tk, .int .i64 tn, .string ts, .slice tA tm tc] t := ht
 by_cases c1 : k = 1
 ·subst c1; exact impl_shape_1 s t tk tn ts tA tm tc bA bc eA ec body els w ht' hb he
 by_cases c2 : k = 2
 ·subst c2; exact impl_shape_2 s t tk tn ts tA tm tc bA bc eA ec body els w ht' hb he
 by_cases c3 : k = 3
 ·subst c3; exact impl_shape_3 s t tk tn ts tA tm tc bA bc eA ec body els w ht' hb he
 by_cases c8 : k = 8
 ·subst c8; exact impl_shape_8 s t tk tn ts tA tm tc bA bc eA ec body els w ht' hb he
 by_cases c4 : k = 4 ∨ k = 5 ∨ k = 6 ∨ k = 7
 ·exact impl_shape_4 k c4 s t tk tn ts tA tm tc bA bc eA ec body els w ht' hb he
 obtain ⟨c4, c5, c6, c7⟩ : k ≠ 4 ∧ k ≠ 5 ∧ k ≠ 6 ∧ k ≠ 7 := by omega
 have e0 : shapeB k (isNameL s.data.toList) s.toList.isEmpty (okT 6 t) (sameB t zeroTm) ((body.length : Int) == 0) ((els.length : Int) == 0) = false := by simp [shapeB, c1, c2, c3, c4, c5, c6, c7, c8]
 rw [e0]
 exact impl_shape_no k s t tk tn ts tA tm tc bA bc eA ec body els w ht' hb he (beq_eq_false_iff_ne.2 c1) (beq_eq_false_iff_ne.2 c2) (beq_eq_false_iff_ne.2 c3) (beq_eq_false_iff_ne.2 c4) (beq_eq_false_iff_ne.2 c5) (beq_eq_false_iff_ne.2 c6) (beq_eq_false_iff_ne.2 c7) (beq_eq_false_iff_ne.2 c8)
theorem spec_shape (g : St) (x : V8) (w : World) (hg : StIs AnyB w x g) (hb : x.bm ≤ 1048576) (he : x.em ≤ 1048576) :
  Calls Tryz.prog 109 #[.agg #[.int .i64 x.k, .string x.s, .int .i64 x.tk, .int .i64 x.tn, .string x.ts, .slice x.tA x.tm x.tc, .slice x.bA x.bm x.bc, .slice x.eA x.em x.ec]] w fun e w' => e = .returned (.bool (shapeG g)) ∧ Below w.heap.size w w' := by
 obtain ⟨t, body, els, rfl, _, _, ht, hb1, _, _, _, he1, _, _, _⟩ := hg.inv
 obtain ⟨k, s, tk, tn, ts, tA, tm, tc, bA, bm, bc, eA, em, ec⟩ := x
 simp only at hb1 he1 hb he
 simp only [shapeG]
 subst hb1 he1
 have ht' : TmIs AnyB w [.int .i64 tk, .int .i64 tn, .string ts, .slice tA tm tc] t := ht
 by_cases c1 : k = 1
 ·subst c1; exact spec_shape_1 s t tk tn ts tA tm tc bA bc eA ec body els w ht' hb he
 by_cases c2 : k = 2
 ·subst c2; exact spec_shape_2 s t tk tn ts tA tm tc bA bc eA ec body els w ht' hb he
 by_cases c3 : k = 3
 ·subst c3; exact spec_shape_3 s t tk tn ts tA tm tc bA bc eA ec body els w ht' hb he
 by_cases c8 : k = 8
 ·subst c8; exact spec_shape_8 s t tk tn ts tA tm tc bA bc eA ec body els w ht' hb he
 by_cases c4 : k = 4 ∨ k = 5 ∨ k = 6 ∨ k = 7
 ·exact spec_shape_4 k c4 s t tk tn ts tA tm tc bA bc eA ec body els w ht' hb he
 obtain ⟨c4, c5, c6, c7⟩ : k ≠ 4 ∧ k ≠ 5 ∧ k ≠ 6 ∧ k ≠ 7 := by omega
 have e0 : shapeB k (isNameL s.data.toList) s.toList.isEmpty (okT 6 t) (sameB t zeroTm) ((body.length : Int) == 0) ((els.length : Int) == 0) = false := by simp [shapeB, c1, c2, c3, c4, c5, c6, c7, c8]
 rw [e0]
 exact spec_shape_no k s t tk tn ts tA tm tc bA bc eA ec body els w ht' hb he (beq_eq_false_iff_ne.2 c1) (beq_eq_false_iff_ne.2 c2) (beq_eq_false_iff_ne.2 c3) (beq_eq_false_iff_ne.2 c4) (beq_eq_false_iff_ne.2 c5) (beq_eq_false_iff_ne.2 c6) (beq_eq_false_iff_ne.2 c7) (beq_eq_false_iff_ne.2 c8)
end Go.Proofs.YtnmblfonmfjoeaaGreatDoor
