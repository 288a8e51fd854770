/- Several texts in one: Visit, Counts, TwiceS. -/
import Derived.Test.YtdanlgmpgdipnaaDoorKd25
import Derived.Test.YtdanlgmpgdipnaaDoorKd11
import Derived.Test.YtdanlgmpgdipnaaDoorKd29
import Derived.Deep.QuietTactic
import Derived.BigQuiet
import Derived.OneCell
import Derived.Test.YtdanlgmpgdipnaaDoorKd31
namespace Go.Proofs.YtdanlgmpgdipnaaDoor
open Go.RowKit
set_option linter.unusedVariables false


theorem StRow.kept {S S' : Nat → Prop} {w w' : World} {A : Option Addr} {l : List St} (h : StRow S w A l) (hk : Keep S w w') (hs : ∀ i, i < w.heap.size → S i → S' i) : StRow S' w' A l := h.keep (fun _ hp hS => hk.cell hp hS) hs
theorem StIs.kept {S S' : Nat → Prop} {w w' : World} {x : V8} {g : St} (h : StIs S w x g) (hk : Keep S w w') (hs : ∀ i, i < w.heap.size → S i → S' i) : StIs S' w' x g := h.keep (fun _ hp hS => hk.cell hp hS) hs

section
variable {σ : Type} (f : σ → St → σ × Bool)
end

theorem StRow.qt {w w' : World} {A : Option Addr} {l : List St} (h : StRow AnyB w A l) (q : Qt w w') : StRow AnyB w' A l := h.belowA q.below
theorem StRow.drewN {w : World} {A : Option Addr} {l : List St} (h : StRow AnyB w A l) (n : Nat) : StRow AnyB (w.drewN n) A l := h.qt (Qt.of_drewN _ _)

end Go.Proofs.YtdanlgmpgdipnaaDoor
