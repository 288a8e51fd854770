/- Lists of texts: what it is that a slice reads as such a list, and the contracts of the laws' helpers that measure, copy and compare them. -/
import Derived.Test.YtbbmoinaakbnbaaDoorMem
import Derived.Deep.QuietTactic
import Derived.BigQuiet
import Derived.SliceStrings
import Derived.WideShapes
namespace Go.Proofs.YtbbmoinaakbnbaaDoor
open Go.RowKit

/-- v is a slice that reads as the texts ss -/
def IsStrs (w : World) (v : Value) (ss : List ByteArray) : Prop := ∃ A c, v = .slice A ss.length c ∧ ss.length ≤ c ∧ c ≤ maxLen ∧ Rd w 1 A ss.length (ss.map Value.string)
theorem IsStrs.below {w w' : World} {v : Value} {ss : List ByteArray} (h : IsStrs w v ss) (hb : Below w.heap.size w w') : IsStrs w' v ss := by
  obtain ⟨A, c, e, h1, h2, h3⟩ := h
  exact ⟨A, c, e, h1, h2, h3.below hb⟩
/-- its cell k -/
theorem rd_str {w : World} {A : Option Addr} {ss : List ByteArray} (rd : Rd w 1 A ss.length (ss.map Value.string)) {k : Nat} (hk : k < ss.length) : ∃ b off, A = some ⟨b, off, none⟩ ∧ w.cell? ⟨b, off + k, none⟩ = some (.string ss[k]) := by
  obtain ⟨b, off, e, hc⟩ := rd.2 (by omega)
  exact ⟨b, off, e, hc k _ (by simp [hk])⟩

/-- what szStringS counts -/
def totS (ss : List ByteArray) : Nat := ss.length + (ss.map ByteArray.size).sum
def cut0 (n : Int) : Int := if n < 0 then -1 else n
theorem sum_take (l : List Nat) (k : Nat) (h : k < l.length) : (l.take (k + 1)).sum = (l.take k).sum + l[k] := by
  have e : l.take (k + 1) = l.take k ++ [l[k]] := List.take_succ_eq_append_getElem h
  rw [e, List.sum_append, List.sum_cons, List.sum_nil, Nat.add_zero]
theorem sum_take_le (l : List Nat) (k : Nat) : (l.take k).sum ≤ l.sum := by
  have e : l.sum = (l.take k).sum + (l.drop k).sum := by rw [← List.sum_append, List.take_append_drop]
  omega
theorem cut0_neg {n : Int} (h : n < 0) : cut0 n = -1 := by simp [cut0, h]
theorem cut0_pos {n : Int} (h : 0 ≤ n) : cut0 n = n := by simp [cut0]; omega
set_option maxRecDepth 100000 in
theorem open_strs {H : Type} {enc : TypeId × Value → H} {w : World} {r : Reach} {b0 base : Nat} {spare : Nat → Bool} {held : Bool} {v : Value} {d : DataW H} {p : List MemPlace} (hv : Value.okWide Tryd.prog w r b0 68 v) (h : DataW.Trod enc Tryd.prog w base spare held 68 v d p) :
    ∃ ss, IsStrs w v ss ∧ ∀ s ∈ ss, s.size ≤ maxLen := by
  obtain ⟨a0, len, cap, rfl⟩ := Go.WideShapes.okWide_slice Tryd.underlying68 hv
  obtain ⟨fuel, hf⟩ := h
  rcases Go.ChangeShapes.open_strings Tryd.underlying68 Tryd.underlying9 (by kernel_rfl) hf with ⟨hcs, _⟩ | ⟨x, l, c, ss, hcs, _, hl, hm, hz, _, hcell, hwz⟩
  · simp [Value.cells] at hcs
    obtain ⟨rfl, rfl, rfl⟩ := hcs
    exact ⟨[], ⟨none, 0, rfl, Nat.le_refl _, by simp [maxLen], Rd.nil⟩, by simp⟩
  · simp [Value.cells] at hcs
    obtain ⟨rfl, rfl, rfl⟩ := hcs
    have hle : len ≤ ss.length := by rw [hz]; split <;> omega
    refine ⟨ss.take len, ⟨some x, cap, by simp [hle], by simp; omega, hm, by simp, fun hn => ?_⟩, fun s hs => hwz s (List.mem_of_mem_take hs)⟩
    obtain ⟨b, off, spot⟩ := x
    have hn' : 0 < ss.length := by simp at hn; omega
    have h0 := hcell 0 hn'
    have hspot : spot = none := by simpa [Addr.add] using World.cell?_spot h0
    subst hspot
    refine ⟨b, off, rfl, fun j u hu => ?_⟩
    simp only [List.getElem?_map, List.getElem?_take] at hu
    split at hu
    · rename_i hj
      have hj' : j < ss.length := by omega
      rw [List.getElem?_eq_getElem hj'] at hu
      have := hcell j hj'
      rw [Addr.add_lit] at this
      rw [this]
      simp [List.getD, List.getElem?_eq_getElem hj'] at hu ⊢
      exact hu
    · simp at hu
theorem strT : ElemT Tryd.prog 68 9 1 16 := ElemT.mk' (z := .string ByteArray.empty) Tryd.underlying68 (by kernel_rfl) rfl (by decide)
theorem strZ : (Tryd.prog.info? 9).map (fun i => i.zero) = some (some (.string ByteArray.empty)) := by kernel_rfl
/-- the place of the first one that is the name; -1 without one -/
def placeS (ss : List ByteArray) (x : ByteArray) : Int := match ss.findIdx? (fun s => decide (s = x)) with | some k => (k : Int) | none => -1
theorem placeS_at {ss : List ByteArray} {x : ByteArray} {k : Nat} (h : ∀ s ∈ ss.take k, s ≠ x) (hk : k < ss.length) (e : ss[k] = x) : placeS ss x = (k : Int) := by
  have : ss.findIdx? (fun s => decide (s = x)) = some k := by
    rw [List.findIdx?_eq_some_iff_getElem]
    refine ⟨hk, by simpa using e, fun j hj => ?_⟩
    have := h ss[j] (List.mem_take_iff_getElem.2 ⟨j, by omega, rfl⟩)
    simpa using this
  unfold placeS; rw [this]
theorem placeS_no {ss : List ByteArray} {x : ByteArray} (h : ∀ s ∈ ss, s ≠ x) : placeS ss x = -1 := by
  have : ss.findIdx? (fun s => decide (s = x)) = none := by
    rw [List.findIdx?_eq_none_iff]
    intro s hs
    simpa using h s hs
  unfold placeS; rw [this]
theorem take_all_succ {ss : List ByteArray} {x : ByteArray} {k : Nat} (h : ∀ s ∈ ss.take k, s ≠ x) (hk : k < ss.length) (e : ss[k] ≠ x) : ∀ s ∈ ss.take (k + 1), s ≠ x := by
  have e1 : ss.take (k + 1) = ss.take k ++ [ss[k]] := List.take_succ_eq_append_getElem hk
  rw [e1]
  intro s hs
  rcases List.mem_append.1 hs with h1 | h1
  · exact h s h1
  · rw [List.mem_singleton.1 h1]; exact e
end Go.Proofs.YtbbmoinaakbnbaaDoor
