/- Several texts in one: Reads. -/
import Derived.Test.YtefcdpkficojgaaDoorKa8
import Derived.Test.YtefcdpkficojgaaDoorKa20
import Derived.Test.YtefcdpkficojgaaDoorKa2
import Derived.Deep.QuietTactic
import Derived.BigQuiet
namespace Go.Proofs.YtefcdpkficojgaaDoor
open Go.RowKit
set_option linter.unusedVariables false


def hasS (ss : List ByteArray) (x : ByteArray) : Bool := ss.any fun s => decide (s = x)
theorem has_iff {ss : List ByteArray} {x : ByteArray} : hasS ss x = true ↔ x ∈ ss := by
  unfold hasS
  rw [List.any_eq_true]
  constructor
  · rintro ⟨y, hy, e⟩; rw [← of_decide_eq_true e]; exact hy
  · intro h; exact ⟨x, h, decide_eq_true rfl⟩
theorem placeS_has (ss : List ByteArray) (x : ByteArray) : decide (0 ≤ placeS ss x) = hasS ss x := by
  rw [Bool.eq_iff_iff, has_iff, decide_eq_true_eq]
  unfold placeS
  cases h : ss.findIdx? (fun s => decide (s = x)) with
  | none =>
    rw [List.findIdx?_eq_none_iff] at h
    constructor
    · intro h'; simp at h'
    · intro hx; simpa using h x hx
  | some k =>
    rw [List.findIdx?_eq_some_iff_getElem] at h
    obtain ⟨hk, he, _⟩ := h
    constructor
    · intro _; rw [← of_decide_eq_true he]; exact List.getElem_mem hk
    · intro _; simp
def addOnceP (ss : List ByteArray) (x : ByteArray) : List ByteArray := if hasS ss x = true then ss else ss ++ [x]
theorem addOnce_yes {ss : List ByteArray} {x : ByteArray} (h : hasS ss x = true) : addOnceP ss x = ss := by simp [addOnceP, h]
theorem addOnce_no {ss : List ByteArray} {x : ByteArray} (h : hasS ss x = false) : addOnceP ss x = ss ++ [x] := by simp [addOnceP, h]
theorem addOnce_len (ss : List ByteArray) (x : ByteArray) : (addOnceP ss x).length ≤ ss.length + 1 := by unfold addOnceP; split <;> simp
theorem hasS_at {ss : List ByteArray} {x : ByteArray} {k : Nat} (hk : k < ss.length) (e : ss[k] = x) : hasS ss x = true := has_iff.2 (by rw [← e]; exact List.getElem_mem hk)
theorem hasS_no {ss : List ByteArray} {x : ByteArray} (h : ∀ s ∈ ss, s ≠ x) : hasS ss x = false := by
  cases e : hasS ss x with
  | false => rfl
  | true => exact absurd rfl (h x (has_iff.1 e))
theorem map_snoc (ss : List ByteArray) (x : ByteArray) : ss.map Value.string ++ [.string x] = (ss ++ [x]).map Value.string := by simp
theorem OwnStrs.alloc {w0 w : World} {v : Value} {ss : List ByteArray} (h : OwnStrs w0 w v ss) (o : Obj) : OwnStrs w0 (w.alloc o) v ss := Own.alloc h o
theorem OwnStrs.cons {w0 w : World} {v : Value} {ss : List ByteArray} (h : OwnStrs w0 w v ss) : ∃ A c, v = .slice A ss.length c ∧ ss.length ≤ c := Own.slice h
theorem slices_Contains (v : Value) (ss : List ByteArray) (x : ByteArray) (w : World) (h : IsStrs w v ss) :
    Calls Tryd.prog 148 #[v, .string x] w fun e w' => e = .returned (.bool (hasS ss x)) ∧ w = w' := by
  have P := Lib.hid (placeS_has ss x)
  have H := Lib.hid h
  clear h
  go_enter Tryd.func148, Tryd.ntmps148
  go_wp2_with fail
  refine (slices_Index v ss x _ H.out).mono ?_
  rintro e w1 ⟨rfl, rfl⟩
  go_wp2_with fail
  go_ret
  exact ⟨ret_bool P.out, rfl⟩
theorem impl_addOnce (w0 w : World) (v : Value) (ss : List ByteArray) (x : ByteArray) (own : OwnStrs w0 w v ss) (hb : ss.length ≤ 10000000) :
    Calls Tryd.prog 78 #[v, .string x] w fun e w' => ∃ v', e = .returned v' ∧ OwnStrs w0 w' v' (addOnceP ss x) ∧ KeepT 9 w w' := by
  have OW := Lib.hid own
  obtain ⟨A, c, rfl, hl⟩ := own.slice
  clear own
  cases h : hasS ss x with
  | true =>
    have HA := Lib.hid (addOnce_yes h)
    go_enter Tryd.func78, Tryd.ntmps78
    go_wp2_with fail
    refine (slices_Contains _ ss x _ OW.out.isStrs).mono ?_
    rintro e w1 ⟨rfl, rfl⟩
    rw [h]
    go_wp2_with fail
    go_ret
    exact ⟨_, rfl, by rw [HA.out]; exact OW.out, KeepT.refl' _ _⟩
  | false =>
    have HA := Lib.hid (addOnce_no h)
    go_enter Tryd.func78, Tryd.ntmps78
    go_wp2_with fail
    refine (slices_Contains _ ss x _ OW.out.isStrs).mono ?_
    rintro e w1 ⟨rfl, rfl⟩
    rw [h]
    go_wp2_with (at_builtin; refine wpList_app_keep rfl _ _ _ rfl strT OW.out _ 1 rfl rfl rfl (by simp [Value.oneCell']) (by simp only [maxLen]; omega) (by omega) ?_; intro v3 w3 own3 kp3)
    go_ret
    refine ⟨_, rfl, ?_, kp3⟩
    rw [HA.out]
    unfold OwnStrs
    rw [List.length_append, ← map_snoc]
    exact own3
end Go.Proofs.YtefcdpkficojgaaDoor
