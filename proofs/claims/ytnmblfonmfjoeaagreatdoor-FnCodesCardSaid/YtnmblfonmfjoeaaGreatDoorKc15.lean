/- Lemmas for the row. -/
import Derived.Test.YtnmblfonmfjoeaaGreatDoorKc14
namespace Go.Proofs.YtnmblfonmfjoeaaGreatDoor
open Go.RowKit
set_option maxHeartbeats 400000
set_option linter.unusedVariables false
theorem snodess_take (l : List St) (k : Nat) (h : k < l.length) : snodess (l.take (k + 1)) = snodess (l.take k) + snodes l[k] := by
 have e : l.take (k + 1) = l.take k ++ [l[k]] := List.take_succ_eq_append_getElem h
 rw [e, snodess_append]; simp [snodess]
theorem snodess_take_le (l : List St) (k : Nat) : snodess (l.take k) ≤ snodess l := by
 have e : snodess l = snodess (l.take k) + snodess (l.drop k) := by rw [← snodess_append, List.take_append_drop]
 omega
theorem quiet_qt {P : Program} {f : FuncId} {args : Array Value} {w : World} {n : Nat} {v : Value} (h : Calls P f args (w.drewN n) fun e w' => e = .returned v ∧ Qt (w.drewN n) w') : Calls P f args (w.drewN n) fun e w'' => e = .returned v ∧ ∃ m, w'' = w.drewN m :=
 Calls.quiet_of (h.mono fun _ _ ⟨he, m, hm⟩ => ⟨he, m, hm⟩)
theorem StRow.qt {w w' : World} {A : Option Addr} {l : List St} (h : StRow AnyB w A l) (q : Qt w w') : StRow AnyB w' A l := h.belowA q.below
theorem StRow.drewN {w : World} {A : Option Addr} {l : List St} (h : StRow AnyB w A l) (n : Nat) : StRow AnyB (w.drewN n) A l := h.qt (Qt.of_drewN _ _)
theorem spec_l04Has (v : Value) (ss : List ByteArray) (x : ByteArray) (w : World) (h : IsStrs w v ss) :
  Calls Tryz.prog 83 #[v, .string x] w fun e w' => e = .returned (.bool (hasS ss x)) ∧ w = w' := by
 obtain ⟨A, c, rfl, h2, h3, rd⟩ := h
 unfold maxLen at h3
 have RD := qh rd
 clear rd
 go_enter Tryz.func83, Tryz.ntmps83
 go_wp2_with fail
 go_loop [5] (fun i => ∃ k : Nat, k ≤ ss.length ∧ i = .int .i64 k ∧ Hid (∀ s ∈ ss.take k, s ≠ x)) (fun i => ss.length - (intOf i).toNat)
 case atStart => exact ⟨0, Nat.zero_le _, rfl, qh (by simp)⟩
 case round =>
  obtain ⟨k, hk, rfl, HT⟩ := hrel
  by_cases hlt : k < ss.length
  ·obtain ⟨b, off, rfl, hcell⟩ := rd_str RD.out hlt
   have h0k : (0 : Int) ≤ (k : Int) := by omega
   have q := str_eq ss[k] x
   by_cases e : ss[k] = x
   ·have HE := qh (hasS_at hlt e)
    rw [decide_eq_true e] at q
    clear e
    go_wp2_with fail
    go_ret
    exact ⟨ret_bool HE.out.symm, rfl⟩
   ·have HE := qh e
    rw [decide_no e] at q
    clear e
    go_wp2_with fail
    go_round
    case rel => exact ⟨k + 1, by omega, by go_num, qh (take_all_succ HT.out hlt HE.out)⟩
    case measure => simp [intOf]; omega
  ·go_wp2_with fail
   go_ret
   refine ⟨ret_bool (hasS_no ?_).symm, rfl⟩
   have := HT.out
   rwa [List.take_of_length_le (by omega)] at this
def twiceS (ss : List ByteArray) : Bool := !decide ss.Nodup
theorem twice_yes {ss : List ByteArray} (h : ¬ ss.Nodup) : twiceS ss = true := by simp [twiceS, h]
theorem twice_no {ss : List ByteArray} (h : ss.Nodup) : twiceS ss = false := by simp [twiceS, h]
theorem nodup_next {ss : List ByteArray} {k : Nat} (hk : k < ss.length) (h : (ss.take k).Nodup) (hn : hasS (ss.take k) ss[k] = false) : (ss.take (k + 1)).Nodup := by
 have e : ss.take (k + 1) = ss.take k ++ [ss[k]] := List.take_succ_eq_append_getElem hk
 rw [e, List.nodup_append]
 refine ⟨h, by simp, ?_⟩
 intro a ha b hb hab
 rw [List.mem_singleton] at hb
 subst hb; subst hab
 rw [has_iff.2 ha] at hn; cases hn
theorem nodup_hit {ss : List ByteArray} {k : Nat} (hk : k < ss.length) (hn : hasS (ss.take k) ss[k] = true) : ¬ ss.Nodup := by
 intro h
 have h2 := h.sublist (List.take_sublist (k + 1) ss)
 have e : ss.take (k + 1) = ss.take k ++ [ss[k]] := List.take_succ_eq_append_getElem hk
 rw [e, List.nodup_append] at h2
 exact h2.2.2 _ (has_iff.1 hn) _ (List.mem_singleton.2 rfl) rfl
theorem nodup_hit2 {ss : List ByteArray} {k : Nat} (hk : k < ss.length) (hn : hasS (ss.drop (k + 1)) ss[k] = true) : ¬ ss.Nodup := by
 intro h
 have h2 := h.sublist (List.drop_sublist k ss)
 rw [List.drop_eq_getElem_cons hk, List.nodup_cons] at h2
 exact h2.1 (has_iff.1 hn)
theorem nodup_all (ss : List ByteArray) (h : ∀ j (hj : j < ss.length), hasS (ss.drop (j + 1)) ss[j] = false) : ss.Nodup := by
 induction ss with
 | nil => simp
 | cons x r ih =>
  rw [List.nodup_cons]
  refine ⟨fun hx => ?_, ih fun j hj => ?_⟩
  ·have := h 0 (by simp)
   simp only [List.drop_succ_cons, List.drop_zero, List.getElem_cons_zero] at this
   rw [has_iff.2 hx] at this; cases this
  ·have := h (j + 1) (by simpa using hj)
   simpa using this
theorem spec_l07Twice (v : Value) (ss : List ByteArray) (w : World) (h : IsStrs w v ss) :
  Calls Tryz.prog 51 #[v] w fun e w' => e = .returned (.bool (twiceS ss)) ∧ Qt w w' := by
 obtain ⟨A, c, rfl, h2, h3, rd⟩ := h
 unfold maxLen at h3
 have RD := qh rd
 clear rd
 go_enter Tryz.func51, Tryz.ntmps51
 go_wp2_with fail
 go_loopw [3] (fun i wr => ∃ k : Nat, k ≤ ss.length ∧ i = .int .i64 k ∧ Hid ((ss.take k).Nodup) ∧ Hid (Qt w wr)) (fun i _ => ss.length - (intOf i).toNat)
 case atStart => exact ⟨0, Nat.zero_le _, rfl, qh (by simp), qh (Qt.refl _)⟩
 case round =>
  obtain ⟨k, hk, rfl, HT, HQ⟩ := hrel
  by_cases hlt : k < ss.length
  ·obtain ⟨b, off, rfl, hcell⟩ := rd_str (RD.out.below HQ.out.below) hlt
   have h0k : (0 : Int) ≤ (k : Int) := by omega
   have h1k : (k : Int) < (ss.length : Int) := by omega
   have hlk : (ss.take k).length = k := by rw [List.length_take]; omega
   have IS : Hid (IsStrs wr (.slice (some ⟨b, off, none⟩) k c) (ss.take k)) := qh ⟨_, _, by rw [hlk], by omega, by unfold maxLen; omega, by
    refine ⟨by simp, fun hn => ⟨b, off, rfl, fun j u hu => ?_⟩⟩
    have hr := (RD.out.below HQ.out.below).2 (by omega)
    obtain ⟨b', off', e, hc⟩ := hr
    obtain ⟨rfl, rfl⟩ : b = b' ∧ off = off' := by injection e with e; injection e with e1 e2; exact ⟨e1, e2⟩
    refine hc j u ?_
    rw [List.map_take, List.getElem?_take] at hu
    split at hu
    ·exact hu
    ·cases hu⟩
   have hkc : (k : Int) ≤ (c : Int) := by omega
   have hkn : k ≤ c := by omega
   clear hlk
   have HC := qh hcell
   cases hh : hasS (ss.take k) ss[k] with
   | true =>
    have F := qh (twice_yes (nodup_hit hlt hh))
    have HH := qh hh
    clear hh
    go_wp2_with fail
    go_region_held3 (fun w' => w'.cell? ⟨b, off + k, none⟩ = some (.string ss[k])) (first | go_keep | exact HC.out)
     ((go_at_call 83; (refine (spec_l04Has _ (ss.take k) ss[k] _ (by exact IS.out.below (Below.refl _ _).drew)).mono ?_); rintro e w1 ⟨rfl, rfl⟩; rw [HH.out]))
    go_wp2_with fail
    go_ret
    exact ⟨ret_bool F.out.symm, HQ.out.trans ⟨1, rfl⟩⟩
   | false =>
    have F := qh (nodup_next hlt HT.out hh)
    have HH := qh hh
    clear hh
    go_wp2_with fail
    go_region_held3 (fun w' => w'.cell? ⟨b, off + k, none⟩ = some (.string ss[k])) (first | go_keep | exact HC.out)
     ((go_at_call 83; (refine (spec_l04Has _ (ss.take k) ss[k] _ (by exact IS.out.below (Below.refl _ _).drew)).mono ?_); rintro e w1 ⟨rfl, rfl⟩; rw [HH.out]))
    go_wp2_with fail
    go_roundw
    case rel => exact ⟨k + 1, by omega, by go_num, qh F.out, qh (HQ.out.trans ⟨1, rfl⟩)⟩
    case measure => simp [intOf]; omega
  ·go_wp2_with fail
   go_ret
   have := HT.out
   rw [List.take_of_length_le (by omega)] at this
   exact ⟨ret_bool (twice_no this).symm, HQ.out⟩
theorem strs_drop {w : World} {b off c k : Nat} {ss : List ByteArray} (rd : Rd w 1 (some ⟨b, off, none⟩) ss.length (ss.map Value.string)) (hk : k ≤ ss.length) (hc : ss.length ≤ c) (hc2 : c ≤ 2 ^ 63 - 1) :
  IsStrs w (.slice (some ⟨b, off + k, none⟩) (ss.length - k) (c - k)) (ss.drop k) := by
 refine ⟨_, _, by rw [List.length_drop], by rw [List.length_drop]; omega, by unfold maxLen; omega, by simp, fun hn => ⟨b, off + k, rfl, fun j u hu => ?_⟩⟩
 rw [List.length_drop] at hn
 obtain ⟨b', off', e, hcell⟩ := rd.2 (by omega)
 obtain ⟨rfl, rfl⟩ : b = b' ∧ off = off' := by injection e with e; injection e with e1 e2; exact ⟨e1, e2⟩
 rw [List.map_drop, List.getElem?_drop] at hu
 have := hcell (k + j) u hu
 rw [Nat.add_assoc]; exact this
theorem strs_end {w : World} {A : Option Addr} {n c : Nat} {ss : List ByteArray} (hn : n = 0) (hs : ss = []) (hc : c ≤ 2 ^ 63 - 1) : IsStrs w (.slice A n c) ss := by
 subst hn; subst hs
 exact ⟨A, c, rfl, by simp, by unfold maxLen; omega, Rd.nil⟩
theorem impl_hasTwice (v : Value) (ss : List ByteArray) (w : World) (h : IsStrs w v ss) :
  Calls Tryz.prog 45 #[v] w fun e w' => e = .returned (.bool (twiceS ss)) ∧ w = w' := by
 obtain ⟨A, c, rfl, h2, h3, rd⟩ := h
 unfold maxLen at h3
 have RD := qh rd
 clear rd
 go_enter Tryz.func45, Tryz.ntmps45
 go_wp2_with fail
 go_loop [7] (fun i => ∃ k : Nat, k ≤ ss.length ∧ i = .int .i64 k ∧ Hid (∀ j (hj : j < ss.length), j < k → hasS (ss.drop (j + 1)) ss[j] = false)) (fun i => ss.length - (intOf i).toNat)
 case atStart => exact ⟨0, Nat.zero_le _, rfl, qh (fun j hj h => by omega)⟩
 case round =>
  obtain ⟨k, hk, rfl, HT⟩ := hrel
  by_cases hlt : k < ss.length
  ·obtain ⟨b, off, rfl, hcell⟩ := rd_str RD.out hlt
   have h0k : (0 : Int) ≤ (k : Int) := by omega
   have h1k : (k : Int) < (ss.length : Int) := by omega
   have hkc : ((k : Int) + 1) ≤ (c : Int) := by omega
   have hkn : k + 1 ≤ c := by omega
   cases hh : hasS (ss.drop (k + 1)) ss[k] with
   | true =>
    have F := qh (twice_yes (nodup_hit2 hlt hh))
    have HH := qh hh
    clear hh
    go_wp2_with fail
    all_goals
     refine (slices_Contains _ (ss.drop (k + 1)) ss[k] _ (by first | exact strs_end (by omega) (List.drop_of_length_le (by omega)) (by omega) | exact strs_drop RD.out (by omega) (by omega) (by omega))).mono ?_
     rintro e w1 ⟨rfl, rfl⟩
     rw [HH.out]
     go_wp2_with fail
     go_ret
     exact ⟨ret_bool F.out.symm, rfl⟩
   | false =>
    have HH := qh hh
    have F : Hid (∀ j (hj : j < ss.length), j < k + 1 → hasS (ss.drop (j + 1)) ss[j] = false) := qh (fun j hj h => by
     by_cases e : j = k
     ·subst e; exact HH.out
     ·exact HT.out j hj (by omega))
    clear hh
    go_wp2_with fail
    all_goals
     refine (slices_Contains _ (ss.drop (k + 1)) ss[k] _ (by first | exact strs_end (by omega) (List.drop_of_length_le (by omega)) (by omega) | exact strs_drop RD.out (by omega) (by omega) (by omega))).mono ?_
     rintro e w1 ⟨rfl, rfl⟩
     rw [HH.out]
     go_wp2_with fail
     go_round
     case rel => first | exact ⟨k + 1, by omega, by go_num, F⟩ | (refine ⟨trivial, ?_⟩; have hck : c = k + 1 := (by omega); clear h2; subst hck; (repeat apply Exists.intro); refine ⟨⟨k + 1, by omega, ?_, F⟩, rfl⟩ <;> go_num)
     case measure => simp [intOf]; omega
  ·go_wp2_with fail
   go_ret
   exact ⟨ret_bool (twice_no (nodup_all ss fun j hj => HT.out j hj (by omega))).symm, rfl⟩
end Go.Proofs.YtnmblfonmfjoeaaGreatDoor
