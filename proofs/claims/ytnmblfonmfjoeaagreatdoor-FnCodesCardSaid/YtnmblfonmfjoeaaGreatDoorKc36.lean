/- Lemmas for the row. -/
import Derived.Test.YtnmblfonmfjoeaaGreatDoorKc35
namespace Go.Proofs.YtnmblfonmfjoeaaGreatDoor
open Go.RowKit
set_option linter.unusedVariables false
def GdT : St → Prop
 | .mk _ _ t _ _ => okT 6 t = true ∨ t = zeroTm
theorem GdT.reads {k : Int} {s : ByteArray} {t : Tm} {b e : List St} (h : GdT (.mk k s t b e)) : readsR t = readsT [] t := by
 have h : okT 6 t = true ∨ t = zeroTm := h
 rcases h with h | rfl
 ·exact readsR_yes h
 ·rw [readsR_zero]
  unfold zeroTm
  rw [readsT_other _ (by decide)]; simp [readsTs]
theorem GdT.nodes {k : Int} {s : ByteArray} {t : Tm} {b e : List St} (h : GdT (.mk k s t b e)) : nodes t ≤ 127 := by
 have h : okT 6 t = true ∨ t = zeroTm := h
 rcases h with h | rfl
 ·have := nodes_ok 6 t h; omega
 ·simp [zeroTm, Go.Proofs.YtnmblfonmfjoeaaGreatDoor.nodes, nodess]
end Go.Proofs.YtnmblfonmfjoeaaGreatDoor
