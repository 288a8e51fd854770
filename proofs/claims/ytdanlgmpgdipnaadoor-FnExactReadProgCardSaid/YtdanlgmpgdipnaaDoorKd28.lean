/- Several texts in one: RdOne, SameTerm. -/
import Derived.Test.YtdanlgmpgdipnaaDoorKd18
import Derived.Test.YtdanlgmpgdipnaaDoorKd24
import Derived.Test.YtdanlgmpgdipnaaDoorKd5
import Derived.LaidEqlPtr
namespace Go.Proofs.YtdanlgmpgdipnaaDoor
open Go.RowKit
set_option linter.unusedVariables false


theorem s4_blk {w : World} {g b : Nat} (h : ¬ b = g) (x y z u : Value) : ((((w.setCell ⟨g, 2, none⟩ x).setCell ⟨g, 3, none⟩ y).setCell ⟨g, 4, none⟩ z).setCell ⟨g, 5, none⟩ u).heap[b]? = w.heap[b]? :=
  (((Below.heap_setCell _ ⟨g, 5, none⟩ u b h).trans (Below.heap_setCell _ ⟨g, 4, none⟩ z b h)).trans (Below.heap_setCell _ ⟨g, 3, none⟩ y b h)).trans (Below.heap_setCell _ ⟨g, 2, none⟩ x b h)
theorem oneG_set {L : List Sg} {n : Nat} {rec : Nat → Nat → Got (List St × Nat)} {i left : Nat} : oneG L n rec 1 i left = (tk L n ⟨#[61]⟩ (i + 1)).bind fun _ i1 => (rdT L n 6 i1).bind fun t i2 => (tk L n ⟨#[59]⟩ i2).bind fun _ i3 => .ok (.mk 1 (tx L i) t [] [], left) i3 := by unfold oneG; rw [if_neg (by omega), if_pos rfl]
theorem oneG_skip {L : List Sg} {n : Nat} {rec : Nat → Nat → Got (List St × Nat)} {i left : Nat} : oneG L n rec 8 i left = (tk L n ⟨#[59]⟩ (i + 1)).bind fun _ i1 => .ok (.mk 8 ⟨#[]⟩ zTm [] [], left) i1 := by unfold oneG; rw [if_neg (by omega), if_neg (by omega), if_pos rfl]
theorem oneG_many {L : List Sg} {n : Nat} {rec : Nat → Nat → Got (List St × Nat)} {k : Int} {i left : Nat} (hk : k = 2 ∨ k = 3) : oneG L n rec k i left = nesG L n rec k i left := by unfold oneG; rw [if_pos hk]
theorem oneG_word {L : List Sg} {n : Nat} {rec : Nat → Nat → Got (List St × Nat)} {k : Int} {i left : Nat} (hk : k = 4 ∨ k = 5 ∨ k = 6 ∨ k = 7) : oneG L n rec k i left = if nmB L (i + 1) = true then (tk L n ⟨#[59]⟩ (i + 2)).bind fun _ i1 => .ok (.mk k (tx L (i + 1)) zTm [] [], left) i1 else .bad 3 (posAt L n (i + 1)) := by unfold oneG; rw [if_neg (by omega), if_neg (by omega), if_neg (by omega)]
theorem word_cases {L : List Sg} {i : Nat} {k : Int} (h : wordOf L i = k) (h0 : k ≠ 0) : k = 1 ∨ k = 2 ∨ k = 3 ∨ k = 4 ∨ k = 5 ∨ k = 6 ∨ k = 7 ∨ k = 8 := by
  subst h
  revert h0
  unfold wordOf
  repeat' split
  all_goals simp
theorem word_one {L : List Sg} {i : Nat} (h : wordOf L i = 1) : nmB L i = true := by
  revert h
  unfold wordOf
  repeat' split
  all_goals first | (intro h; exact absurd h (by decide)) | (intro _; assumption)
theorem name_sz {L : List Sg} {i : Nat} (h : nmB L i = true) : (tx L i).size ≤ maxLen := by have := name_len h; rw [size_list] at this; unfold maxLen; omega

theorem Fr.lt {lo : Nat} {w : World} {b : Nat} (h : Fr lo w b) : b < w.heap.size := by
  obtain ⟨_, cur, e, h⟩ := h
  rcases Nat.lt_or_ge b w.heap.size with hlt | hge
  · exact hlt
  · rw [Array.getElem?_eq_none hge] at h; cases h
end Go.Proofs.YtdanlgmpgdipnaaDoor
