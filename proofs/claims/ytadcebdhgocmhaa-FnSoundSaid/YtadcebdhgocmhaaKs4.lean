/- Several texts in one: Strs. -/
import Derived.Test.YtadcebdhgocmhaaKs1
import Derived.Deep.QuietTactic
import Derived.BigQuiet
import Derived.SliceStrings
import Derived.WideShapes
namespace Go.Proofs.Ytadcebdhgocmhaa
open Go.RowKit
set_option linter.unusedVariables false


/-- v is a slice that reads as the texts ss -/
def IsStrs (w : World) (v : Value) (ss : List ByteArray) : Prop := ∃ A c, v = .slice A ss.length c ∧ ss.length ≤ c ∧ c ≤ maxLen ∧ Rd w 1 A ss.length (ss.map Value.string)
theorem IsStrs.below {w w' : World} {v : Value} {ss : List ByteArray} (h : IsStrs w v ss) (hb : Below w.heap.size w w') : IsStrs w' v ss := by
  obtain ⟨A, c, e, h1, h2, h3⟩ := h
  exact ⟨A, c, e, h1, h2, h3.below hb⟩
/-- its cell k -/
theorem rd_str {w : World} {A : Option Addr} {ss : List ByteArray} (rd : Rd w 1 A ss.length (ss.map Value.string)) {k : Nat} (hk : k < ss.length) : ∃ b off, A = some ⟨b, off, none⟩ ∧ w.cell? ⟨b, off + k, none⟩ = some (.string ss[k]) := by
  obtain ⟨b, off, e, hc⟩ := rd.2 (by omega)
  exact ⟨b, off, e, hc k _ (by simp [hk])⟩

/-- what szStringS counts -/
def totS (ss : List ByteArray) : Nat := ss.length + (ss.map ByteArray.size).sum
def cut0 (n : Int) : Int := if n < 0 then -1 else n
theorem cut0_neg {n : Int} (h : n < 0) : cut0 n = -1 := by simp [cut0, h]
theorem cut0_pos {n : Int} (h : 0 ≤ n) : cut0 n = n := by simp [cut0]; omega
theorem strT : ElemT Try.prog 24 9 1 16 := ElemT.mk' (z := .string ByteArray.empty) Try.underlying24 (by kernel_rfl) rfl (by decide)
theorem strZ : (Try.prog.info? 9).map (fun i => i.zero) = some (some (.string ByteArray.empty)) := by kernel_rfl
/-- the place of the first one that is the name; -1 without one -/
def placeS (ss : List ByteArray) (x : ByteArray) : Int := match ss.findIdx? (fun s => decide (s = x)) with | some k => (k : Int) | none => -1
theorem placeS_at {ss : List ByteArray} {x : ByteArray} {k : Nat} (h : ∀ s ∈ ss.take k, s ≠ x) (hk : k < ss.length) (e : ss[k] = x) : placeS ss x = (k : Int) := by
  have : ss.findIdx? (fun s => decide (s = x)) = some k := by
    rw [List.findIdx?_eq_some_iff_getElem]
    refine ⟨hk, by simpa using e, fun j hj => ?_⟩
    have := h ss[j] (List.mem_take_iff_getElem.2 ⟨j, by omega, rfl⟩)
    simpa using this
  unfold placeS; rw [this]
theorem placeS_no {ss : List ByteArray} {x : ByteArray} (h : ∀ s ∈ ss, s ≠ x) : placeS ss x = -1 := by
  have : ss.findIdx? (fun s => decide (s = x)) = none := by
    rw [List.findIdx?_eq_none_iff]
    intro s hs
    simpa using h s hs
  unfold placeS; rw [this]
theorem take_all_succ {ss : List ByteArray} {x : ByteArray} {k : Nat} (h : ∀ s ∈ ss.take k, s ≠ x) (hk : k < ss.length) (e : ss[k] ≠ x) : ∀ s ∈ ss.take (k + 1), s ≠ x := by
  have e1 : ss.take (k + 1) = ss.take k ++ [ss[k]] := List.take_succ_eq_append_getElem hk
  rw [e1]
  intro s hs
  rcases List.mem_append.1 hs with h1 | h1
  · exact h s h1
  · rw [List.mem_singleton.1 h1]; exact e
set_option maxHeartbeats 400000 in
theorem slices_Index (v : Value) (ss : List ByteArray) (x : ByteArray) (w : World) (h : IsStrs w v ss) :
    Calls Try.prog 74 #[v, .string x] w fun e w' => e = .returned (.int .i64 (placeS ss x)) ∧ w = w' := by
  obtain ⟨A, c, rfl, h2, h3, rd⟩ := h
  unfold maxLen at h3
  have RD := Lib.hid rd
  clear rd
  go_enter Try.func74, Try.ntmps74
  go_wp2_with fail
  go_loop [8] (fun i => ∃ k : Nat, k ≤ ss.length ∧ i = .int .i64 k ∧ Hid (∀ s ∈ ss.take k, s ≠ x)) (fun i => ss.length - (intOf i).toNat)
  case atStart => exact ⟨0, Nat.zero_le _, rfl, Lib.hid (by simp)⟩
  case round =>
    obtain ⟨k, hk, rfl, HT⟩ := hrel
    by_cases hlt : k < ss.length
    · obtain ⟨b, off, rfl, hcell⟩ := rd_str RD.out hlt
      have h0k : (0 : Int) ≤ (k : Int) := by omega
      have q := str_eq x ss[k]
      by_cases e : x = ss[k]
      · have HE := Lib.hid e
        rw [decide_eq_true e] at q
        clear e
        go_wp2_with fail
        go_ret
        exact ⟨ret_int (placeS_at HT.out hlt HE.out.symm).symm, rfl⟩
      · have HE := Lib.hid e
        rw [decide_no e] at q
        clear e
        go_wp2_with fail
        go_round
        case rel => exact ⟨k + 1, by omega, by go_num, Lib.hid (take_all_succ HT.out hlt (fun h => HE.out h.symm))⟩
        case measure => simp [intOf]; omega
    · go_wp2_with fail
      go_ret
      refine ⟨ret_int (placeS_no ?_).symm, rfl⟩
      have := HT.out
      rwa [List.take_of_length_le (by omega)] at this
end Go.Proofs.Ytadcebdhgocmhaa
