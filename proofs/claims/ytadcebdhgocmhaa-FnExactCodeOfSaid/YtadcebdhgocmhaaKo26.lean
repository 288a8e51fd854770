/- Lemmas for the row. -/
import Derived.Test.YtadcebdhgocmhaaKo24
import Derived.Test.YtadcebdhgocmhaaKo21
import Derived.Test.YtadcebdhgocmhaaKo25
import Derived.Test.YtadcebdhgocmhaaKo22
import Derived.Test.YtadcebdhgocmhaaKo19
import Derived.Test.YtadcebdhgocmhaaKo2
namespace Go.Proofs.Ytadcebdhgocmhaa
open Go.RowKit
set_option linter.unusedVariables false
abbrev CdC (l : List St) : Prop := ∀ (A : Option Addr) (c : Nat) (left : Int) (w : World), StRow AnyB w A l → l.length ≤ c → c ≤ maxLen → -1 ≤ left → left ≤ 1048576 → Calls Try.prog 64 #[.slice A l.length c, .int .i64 left] w fun e w' => e = .returned (.int .i64 (cut0 (left - (snodess l : Int)))) ∧ Qt w w'
theorem cut0_eq (n : Int) : cut0 n = if n < 0 then -1 else n := by
  by_cases h : n < 0
  · rw [if_pos h, cut0_neg h]
  · rw [if_neg h, cut0_pos (by omega)]
theorem cut0_sub (a b : Int) (hb : 0 ≤ b) : cut0 (cut0 a - b) = cut0 (a - b) := by
  rw [cut0_eq, cut0_eq a, cut0_eq (a - b)]
  repeat' split
  all_goals omega
theorem cut0_le {a : Int} : -1 ≤ cut0 a ∧ (0 ≤ a → cut0 a = a) ∧ (a < 0 → cut0 a = -1) := by
  rw [cut0_eq]
  split <;> omega
set_option maxHeartbeats 800000 in
theorem spec_l04Count_at (l : List St) (ih : ∀ g ∈ l, ∀ t k s body els, g = .mk k s t body els → CdC body ∧ CdC els) : CdC l := by
  intro A c left w row hl hc h0 h1
  unfold maxLen at hc
  have IH := Lib.hid ih
  have RW := Lib.hid row
  clear ih row
  go_enter Try.func64, Try.ntmps64
  go_wp2_with fail
  go_loopw [1, 5] (fun n i wr => ∃ j : Nat, j ≤ l.length ∧ i = .int .i64 j ∧ (∃ m : Int, -1 ≤ m ∧ m ≤ 1048576 ∧ n = .int .i64 m ∧ Hid (m = cut0 (left - (snodess (l.take j) : Int)))) ∧ Hid (Qt w wr)) (fun _ i _ => l.length - (intOf i).toNat)
  case atStart => exact ⟨0, Nat.zero_le _, rfl, ⟨left, h0, h1, rfl, Lib.hid (by simp only [List.take_zero, snodess]; rw [cut0_eq]; split <;> omega)⟩, Lib.hid (Qt.refl _)⟩
  case round =>
    obtain ⟨j, hj, rfl, ⟨m, hm1, hm2, rfl, HM⟩, HQ⟩ := hrel
    by_cases hlt : j < l.length
    case neg =>
      have hd : decide ((j : Int) < (l.length : Int)) = false := decide_no (by omega)
      go_wp2_with fail
      go_ret
      exact ⟨ret_int (by rw [HM.out, List.take_of_length_le (by omega)]), HQ.out⟩
    have hd : decide ((j : Int) < (l.length : Int)) = true := decide_eq_true (by omega)
    have hle := snodess_take_le l j
    by_cases hm : 0 ≤ m
    case neg =>
      have hd2 : decide (0 ≤ m) = false := decide_no hm
      have hm' : ¬ (0 ≤ m) := hm
      have HE : Hid (m = cut0 (left - (snodess l : Int))) := Lib.hid (by
        have := HM.out
        have q := @cut0_le (left - (snodess (l.take j) : Int))
        have q2 := @cut0_le (left - (snodess l : Int))
        omega)
      go_wp2_with fail
      go_ret
      exact ⟨ret_int HE.out, HQ.out⟩
    obtain ⟨b, off, x, rfl, _, ⟨d0, d1, d2, d3, d4, d5, d6, d7⟩, hg⟩ := rd_stmt (RW.out.qt HQ.out) hlt
    obtain ⟨t, body, els, heq, _, _, _, hb1, hb2, hb3, rb, he1, he2, he3, re⟩ := hg.inv
    have VB := Lib.hid (IH.out l[j] (List.getElem_mem hlt) t _ _ body els heq).1
    have VE := Lib.hid (IH.out l[j] (List.getElem_mem hlt) t _ _ body els heq).2
    have hsg : snodes l[j] = 1 + snodess body + snodess els := by rw [heq, snodes]
    have hst := snodess_take l j hlt
    have hle2 := snodess_take_le l (j + 1)
    have q1 := @cut0_le (m - 1 - (snodess body : Int))
    have HR : Hid (cut0 (cut0 (m - 1 - (snodess body : Int)) - (snodess els : Int)) = cut0 (left - (snodess (l.take (j + 1)) : Int))) := Lib.hid (by
      rw [cut0_sub _ _ (by omega)]
      have := HM.out
      have q := @cut0_le (left - (snodess (l.take j) : Int))
      have e : m = left - (snodess (l.take j) : Int) := by omega
      rw [e, hst, hsg]
      congr 1
      push_cast
      omega)
    have RB := Lib.hid rb
    have RE := Lib.hid re
    obtain ⟨xk, xs, tk, tn, ts, tA, tm, tc, bA, bm, bc, eA, em, ec⟩ := x
    simp only at hb1 he1 hb2 hb3 he2 he3 d6 d7 RB RE
    subst hb1 he1
    have h0k : (0 : Int) ≤ (j : Int) := by omega
    have h1k : (j : Int) < (l.length : Int) := by omega
    have b1 : cut0 (m - 1 - (snodess body : Int)) ≤ 1048576 := by omega
    have b2 := q1.1
    have b3 := @cut0_le (cut0 (m - 1 - (snodess body : Int)) - (snodess els : Int))
    have b4 : cut0 (cut0 (m - 1 - (snodess body : Int)) - (snodess els : Int)) ≤ 1048576 := by omega
    have B3 := Lib.hid b3.1
    have Q1 := Lib.hid q1
    have B4 := Lib.hid b4
    have w1 : IntKind.i64.wrap (m - 1) = m - 1 := IntWalk.i64_in _ (by omega)
    have hd2 : decide (0 ≤ m) = true := decide_eq_true hm
    clear hst hsg heq hg rb re d0 d1 d2 d3 d4 d5 hle2 q1 b3 b4
    go_wp2_with fail
    go_quiet ((first | (go_at_call 64; with_reducible exact quiet_qt (VB.out bA bc _ _ (RB.out.drewN _) hb2 hb3 (by omega) (by omega))) | (go_at_call 64; with_reducible exact quiet_qt (VE.out eA ec _ _ (RE.out.drewN _) he2 he3 b2 b1))))
    clear w1
    go_wp2_with fail
    go_roundw
    case rel => exact ⟨j + 1, by omega, by go_num, ⟨_, B3.out, B4.out, rfl, Lib.hid HR.out⟩, Lib.hid (HQ.out.trans (Qt.of_drewN _ _))⟩
    case measure => simp [intOf]; omega
theorem spec_l04Count (l : List St) : CdC l := by
  induction hN : snodess l using Nat.strongRecOn generalizing l with
  | ind N ih =>
    refine spec_l04Count_at l fun g hg t k s body els e => ?_
    have := snodess_le hg
    have h2 : snodes g = 1 + snodess body + snodess els := by rw [e, snodes]
    exact ⟨ih _ (by omega) body rfl, ih _ (by omega) els rfl⟩
theorem snodess_split (l : List St) (j : Nat) (h : j < l.length) : snodess (l.take j) + snodes l[j] ≤ snodess l := by
  have e : snodess l = snodess (l.take j) + snodess (l.drop j) := by rw [← snodess_append, List.take_append_drop]
  rw [List.drop_eq_getElem_cons h, snodess] at e
  omega
theorem OwnStrs.grew {w0 w w' : World} {u v v' : Value} {ss : List ByteArray} (h : OwnStrs w0 w u ss) (hg : Grew v v' w w') (hne : ∀ b, u.ownBlock = some b → v.ownBlock ≠ some b) (hv : ∀ b, v.ownBlock = some b → w0.heap.size ≤ b) : OwnStrs w0 w' u ss :=
  h.keepS hg.keep hne (fun b hb e => by have := hv b e; omega)
theorem impl_addOnceG (w0 w : World) (v : Value) (ss : List ByteArray) (x : ByteArray) (own : OwnStrs w0 w v ss) (hb : ss.length ≤ 10000000) :
    Calls Try.prog 37 #[v, .string x] w fun e w' => ∃ v', e = .returned v' ∧ OwnStrs w0 w' v' (addOnceP ss x) ∧ Grew v v' w w' := by
  have OW := Lib.hid own
  obtain ⟨A, c, rfl, hl⟩ := own.slice
  clear own
  cases h : hasS ss x with
  | true =>
    have HA := Lib.hid (addOnce_yes h)
    go_enter Try.func37, Try.ntmps37
    go_wp2_with fail
    refine (slices_Contains _ ss x _ OW.out.isStrs).mono ?_
    rintro e w1 ⟨rfl, rfl⟩
    rw [h]
    go_wp2_with fail
    go_ret
    exact ⟨_, rfl, by rw [HA.out]; exact OW.out, Grew.refl _ _⟩
  | false =>
    have HA := Lib.hid (addOnce_no h)
    go_enter Try.func37, Try.ntmps37
    go_wp2_with fail
    refine (slices_Contains _ ss x _ OW.out.isStrs).mono ?_
    rintro e w1 ⟨rfl, rfl⟩
    rw [h]
    go_wp2_with (at_builtin; refine wpList_appG_new w.heap.size rfl rfl _ _ _ rfl strT OW.out _ 1 rfl rfl rfl (by simp [Value.oneCell']) (by simp only [maxLen]; omega) (by omega) ?_; intro v3 w3 own3 kp3)
    go_ret
    refine ⟨_, rfl, ?_, kp3⟩
    rw [HA.out]
    unfold OwnStrs
    rw [List.length_append, ← map_snoc]
    exact own3
def addUnk (known acc : List ByteArray) (x : ByteArray) : List ByteArray := if hasS known x = true then acc else addOnceP acc x
theorem addUnk_known {known acc : List ByteArray} {x : ByteArray} (h : hasS known x = true) : addUnk known acc x = acc := by simp [addUnk, h]
theorem addUnk_there {known acc : List ByteArray} {x : ByteArray} (h : hasS known x = false) (h2 : hasS acc x = true) : addUnk known acc x = acc := by simp [addUnk, h, addOnce_yes h2]
theorem addUnk_once {known acc : List ByteArray} {x : ByteArray} (h : hasS known x = false) : addUnk known acc x = addOnceP acc x := by simp [addUnk, h]
theorem addUnk_new {known acc : List ByteArray} {x : ByteArray} (h : hasS known x = false) (h2 : hasS acc x = false) : addUnk known acc x = acc ++ [x] := by simp [addUnk, h, addOnce_no h2]
theorem addUnk_len (known acc : List ByteArray) (x : ByteArray) : (addUnk known acc x).length ≤ acc.length + 1 := by
  unfold addUnk
  split
  · omega
  · exact addOnce_len acc x
theorem spec_l07Add (w0 w : World) (v kv : Value) (acc known : List ByteArray) (x : ByteArray) (own : OwnStrs w0 w v acc) (hk : IsStrs w kv known) (hb : acc.length ≤ 10000000) :
    Calls Try.prog 79 #[v, kv, .string x] w fun e w' => ∃ v', e = .returned v' ∧ OwnStrs w0 w' v' (addUnk known acc x) ∧ Grew v v' w w' := by
  have OW := Lib.hid own
  have KV := Lib.hid hk
  obtain ⟨A, c, rfl, hl⟩ := own.slice
  obtain ⟨A2, c2, rfl, _⟩ := hk
  clear own
  cases h : hasS known x with
  | true =>
    have HA := Lib.hid (addUnk_known (acc := acc) h)
    go_enter Try.func79, Try.ntmps79
    go_wp2_with fail
    refine (spec_l04Has _ known x _ KV.out).mono ?_
    rintro e w1 ⟨rfl, rfl⟩
    rw [h]
    clear h
    go_wp2_with fail
    go_ret
    exact ⟨_, rfl, by rw [HA.out]; exact OW.out, Grew.refl _ _⟩
  | false =>
    cases h2 : hasS acc x with
    | true =>
      have HA := Lib.hid (addUnk_there h h2)
      go_enter Try.func79, Try.ntmps79
      go_wp2_with fail
      refine (spec_l04Has _ known x _ KV.out).mono ?_
      rintro e w1 ⟨rfl, rfl⟩
      rw [h]
      clear h
      go_wp2_with fail
      refine (spec_l04Has _ acc x _ OW.out.isStrs).mono ?_
      rintro e w1 ⟨rfl, rfl⟩
      rw [h2]
      clear h2
      go_wp2_with fail
      go_ret
      exact ⟨_, rfl, by rw [HA.out]; exact OW.out, Grew.refl _ _⟩
    | false =>
      have HA := Lib.hid (addUnk_new h h2)
      go_enter Try.func79, Try.ntmps79
      go_wp2_with fail
      refine (spec_l04Has _ known x _ KV.out).mono ?_
      rintro e w1 ⟨rfl, rfl⟩
      rw [h]
      clear h
      go_wp2_with fail
      refine (spec_l04Has _ acc x _ OW.out.isStrs).mono ?_
      rintro e w1 ⟨rfl, rfl⟩
      rw [h2]
      clear h2
      go_wp2_with (at_builtin; refine wpList_appG_new w.heap.size rfl rfl _ _ _ rfl strT OW.out _ 1 rfl rfl rfl (by simp [Value.oneCell']) (by simp only [maxLen]; omega) (by omega) ?_; intro v3 w3 own3 kp3)
      go_ret
      refine ⟨_, rfl, ?_, kp3⟩
      rw [HA.out]
      unfold OwnStrs
      rw [List.length_append, ← map_snoc]
      exact own3
end Go.Proofs.Ytadcebdhgocmhaa
