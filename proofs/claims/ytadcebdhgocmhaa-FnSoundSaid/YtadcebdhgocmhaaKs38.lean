/- Several texts in one: Grew, StOkLaw. -/
import Derived.Test.YtadcebdhgocmhaaKs31
import Derived.Test.YtadcebdhgocmhaaKs26
import Derived.Test.YtadcebdhgocmhaaKs28
import Derived.Test.YtadcebdhgocmhaaKs20
namespace Go.Proofs.Ytadcebdhgocmhaa
open Go.RowKit
set_option linter.unusedVariables false


/-- a row of another block is as it was -/
theorem OwnStrs.grew {w0 w w' : World} {u v v' : Value} {ss : List ByteArray} (h : OwnStrs w0 w u ss) (hg : Grew v v' w w') (hne : ∀ b, u.ownBlock = some b → v.ownBlock ≠ some b) (hv : ∀ b, v.ownBlock = some b → w0.heap.size ≤ b) : OwnStrs w0 w' u ss :=
  h.keepS hg.keep hne (fun b hb e => by have := hv b e; omega)
theorem OwnStrs.setB {w0 w : World} {v : Value} {ss : List ByteArray} {b o : Nat} (h : OwnStrs w0 w v ss) (hb : Sane 9 w b) (hw : w0.heap.size ≤ b) (u : Value) : OwnStrs w0 (w.setCell ⟨b, o, none⟩ u) v ss :=
  ⟨ownsRow_setCell_other h.1 (a := ⟨b, o, none⟩) (Own.neT h hb) u, Below.setCell h.2 hw u⟩
theorem impl_addOnceG (w0 w : World) (v : Value) (ss : List ByteArray) (x : ByteArray) (own : OwnStrs w0 w v ss) (hb : ss.length ≤ 10000000) :
    Calls Try.prog 37 #[v, .string x] w fun e w' => ∃ v', e = .returned v' ∧ OwnStrs w0 w' v' (addOnceP ss x) ∧ Grew v v' w w' := by
  have OW := Lib.hid own
  obtain ⟨A, c, rfl, hl⟩ := own.slice
  clear own
  cases h : hasS ss x with
  | true =>
    have HA := Lib.hid (addOnce_yes h)
    go_enter Try.func37, Try.ntmps37
    go_wp2_with fail
    refine (slices_Contains _ ss x _ OW.out.isStrs).mono ?_
    rintro e w1 ⟨rfl, rfl⟩
    rw [h]
    go_wp2_with fail
    go_ret
    exact ⟨_, rfl, by rw [HA.out]; exact OW.out, Grew.refl _ _⟩
  | false =>
    have HA := Lib.hid (addOnce_no h)
    go_enter Try.func37, Try.ntmps37
    go_wp2_with fail
    refine (slices_Contains _ ss x _ OW.out.isStrs).mono ?_
    rintro e w1 ⟨rfl, rfl⟩
    rw [h]
    go_wp2_with (at_builtin; refine wpList_appG_new w.heap.size rfl rfl _ _ _ rfl strT OW.out _ 1 rfl rfl rfl (by simp [Value.oneCell']) (by simp only [maxLen]; omega) (by omega) ?_; intro v3 w3 own3 kp3)
    go_ret
    refine ⟨_, rfl, ?_, kp3⟩
    rw [HA.out]
    unfold OwnStrs
    rw [List.length_append, ← map_snoc]
    exact own3
/-- a name that is not known is gathered once -/
def addUnk (known acc : List ByteArray) (x : ByteArray) : List ByteArray := if hasS known x = true then acc else addOnceP acc x
theorem addUnk_known {known acc : List ByteArray} {x : ByteArray} (h : hasS known x = true) : addUnk known acc x = acc := by simp [addUnk, h]
theorem addUnk_there {known acc : List ByteArray} {x : ByteArray} (h : hasS known x = false) (h2 : hasS acc x = true) : addUnk known acc x = acc := by simp [addUnk, h, addOnce_yes h2]
theorem addUnk_once {known acc : List ByteArray} {x : ByteArray} (h : hasS known x = false) : addUnk known acc x = addOnceP acc x := by simp [addUnk, h]
theorem addUnk_new {known acc : List ByteArray} {x : ByteArray} (h : hasS known x = false) (h2 : hasS acc x = false) : addUnk known acc x = acc ++ [x] := by simp [addUnk, h, addOnce_no h2]
theorem addUnk_len (known acc : List ByteArray) (x : ByteArray) : (addUnk known acc x).length ≤ acc.length + 1 := by
  unfold addUnk
  split
  · omega
  · exact addOnce_len acc x
theorem spec_l07Add (w0 w : World) (v kv : Value) (acc known : List ByteArray) (x : ByteArray) (own : OwnStrs w0 w v acc) (hk : IsStrs w kv known) (hb : acc.length ≤ 10000000) :
    Calls Try.prog 79 #[v, kv, .string x] w fun e w' => ∃ v', e = .returned v' ∧ OwnStrs w0 w' v' (addUnk known acc x) ∧ Grew v v' w w' := by
  have OW := Lib.hid own
  have KV := Lib.hid hk
  obtain ⟨A, c, rfl, hl⟩ := own.slice
  obtain ⟨A2, c2, rfl, _⟩ := hk
  clear own
  cases h : hasS known x with
  | true =>
    have HA := Lib.hid (addUnk_known (acc := acc) h)
    go_enter Try.func79, Try.ntmps79
    go_wp2_with fail
    refine (spec_l04Has _ known x _ KV.out).mono ?_
    rintro e w1 ⟨rfl, rfl⟩
    rw [h]
    clear h
    go_wp2_with fail
    go_ret
    exact ⟨_, rfl, by rw [HA.out]; exact OW.out, Grew.refl _ _⟩
  | false =>
    cases h2 : hasS acc x with
    | true =>
      have HA := Lib.hid (addUnk_there h h2)
      go_enter Try.func79, Try.ntmps79
      go_wp2_with fail
      refine (spec_l04Has _ known x _ KV.out).mono ?_
      rintro e w1 ⟨rfl, rfl⟩
      rw [h]
      clear h
      go_wp2_with fail
      refine (spec_l04Has _ acc x _ OW.out.isStrs).mono ?_
      rintro e w1 ⟨rfl, rfl⟩
      rw [h2]
      clear h2
      go_wp2_with fail
      go_ret
      exact ⟨_, rfl, by rw [HA.out]; exact OW.out, Grew.refl _ _⟩
    | false =>
      have HA := Lib.hid (addUnk_new h h2)
      go_enter Try.func79, Try.ntmps79
      go_wp2_with fail
      refine (spec_l04Has _ known x _ KV.out).mono ?_
      rintro e w1 ⟨rfl, rfl⟩
      rw [h]
      clear h
      go_wp2_with fail
      refine (spec_l04Has _ acc x _ OW.out.isStrs).mono ?_
      rintro e w1 ⟨rfl, rfl⟩
      rw [h2]
      clear h2
      go_wp2_with (at_builtin; refine wpList_appG_new w.heap.size rfl rfl _ _ _ rfl strT OW.out _ 1 rfl rfl rfl (by simp [Value.oneCell']) (by simp only [maxLen]; omega) (by omega) ?_; intro v3 w3 own3 kp3)
      go_ret
      refine ⟨_, rfl, ?_, kp3⟩
      rw [HA.out]
      unfold OwnStrs
      rw [List.length_append, ← map_snoc]
      exact own3

set_option maxHeartbeats 800000 in
theorem spec_l04Ok (l : List St) (A : Option Addr) (c : Nat) (w : World) (row : StRow AnyB w A l) (hl : l.length ≤ c) (hc : c ≤ maxLen) (htot : totGs l ≤ 1048577) :
    Calls Try.prog 77 #[.slice A l.length c] w fun e w' => e = .returned (.bool (fitGs 6 60 l)) ∧ Below w.heap.size w w' := by
  have RW := Lib.hid row
  clear row
  by_cases h : snodess l ≤ 60
  · have HC := Lib.hid (cut0_pos (n := 60 - (snodess l : Int)) (by omega))
    have hd : decide ((60 : Int) - (snodess l : Int) ≥ 0) = true := decide_eq_true (by omega)
    have HF : Hid (fitGs 6 60 l = rightGs 6 l) := Lib.hid (by unfold fitGs; rw [decide_eq_true h, Bool.and_true])
    have hge : (0 : Int) ≤ 60 - (snodess l : Int) := by omega
    go_enter Try.func77, Try.ntmps77
    go_wp2_with fail
    refine (spec_l04Count l A c 60 _ RW.out hl hc (by omega) (by omega)).mono ?_
    rintro e w1 ⟨rfl, q1⟩
    have B1 := Lib.hid q1.below
    rw [HC.out]
    clear q1
    go_wp2_with fail
    refine (spec_l04Right l A c 6 _ (RW.out.belowA B1.out) hl hc htot (by omega)).mono ?_
    rintro e w2 ⟨rfl, b2⟩
    have B2 := Lib.hid (below_then B1.out b2)
    clear b2
    go_wp2_with fail
    go_ret
    exact ⟨ret_bool HF.out.symm, B2.out⟩
  · have HC := Lib.hid (cut0_neg (n := 60 - (snodess l : Int)) (by omega))
    have HF : Hid (fitGs 6 60 l = false) := Lib.hid (fit_no2 (by omega))
    go_enter Try.func77, Try.ntmps77
    go_wp2_with fail
    refine (spec_l04Count l A c 60 _ RW.out hl hc (by omega) (by omega)).mono ?_
    rintro e w1 ⟨rfl, q1⟩
    have B1 := Lib.hid q1.below
    rw [HC.out]
    clear q1
    go_wp2_with fail
    go_ret
    exact ⟨ret_bool HF.out.symm, B1.out⟩
end Go.Proofs.Ytadcebdhgocmhaa
