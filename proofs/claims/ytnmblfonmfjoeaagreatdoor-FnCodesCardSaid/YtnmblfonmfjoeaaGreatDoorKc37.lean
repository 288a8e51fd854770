/- Lemmas for the row. -/
import Derived.Lib.AppendZeros
import Derived.Test.YtnmblfonmfjoeaaGreatDoorKc36
namespace Go.Proofs.YtnmblfonmfjoeaaGreatDoor
open Go.RowKit
set_option linter.unusedVariables false
theorem Grew.apart {v v' : Value} {w w' : World} (h : Grew v v' w w') {i : Nat} (hi : i < w.heap.size) (hv : v.ownBlock ≠ some i) : v'.ownBlock ≠ some i := by
 intro e
 rcases h.lies with h1 | ⟨g, h1, h2⟩
 ·exact hv (h1.symm.trans e)
 ·rw [h1] at e; injection e with e; omega
theorem OwnB.below {base : Nat} {w w' : World} {v : Value} {ss : List ByteArray} (h : OwnB base w v ss) (hb : Below w.heap.size w w') : OwnB base w' v ss := h.keep (S := fun _ => True) (Keep.of_below hb) (fun _ _ => trivial)
theorem OutAt.term {base go : Nat} {w : World} {v : Value} {acc : List ByteArray} (ho : OutAt base go w v acc) {i : Nat} (h : i ≠ go ∧ (i < base ∨ Sane 9 w i)) : v.ownBlock ≠ some i := by
 intro e
 rcases h.2 with h2 | h2
 ·have := (ho.own.lt i e).1; omega
 ·exact ho.own.ne h2 e
end Go.Proofs.YtnmblfonmfjoeaaGreatDoor
