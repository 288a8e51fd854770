/- Several texts in one: Visit, Counts, TwiceS. -/
import Derived.Test.YtefcdpkficojgaaDoorKb14
import Derived.Test.YtefcdpkficojgaaDoorKb2
import Derived.Test.YtefcdpkficojgaaDoorKb17
import Derived.Deep.QuietTactic
import Derived.BigQuiet
import Derived.OneCell
import Derived.Test.YtefcdpkficojgaaDoorKb19
namespace Go.Proofs.YtefcdpkficojgaaDoor
open Go.RowKit
set_option linter.unusedVariables false


theorem StRow.kept {S S' : Nat → Prop} {w w' : World} {A : Option Addr} {l : List St} (h : StRow S w A l) (hk : Keep S w w') (hs : ∀ i, i < w.heap.size → S i → S' i) : StRow S' w' A l := h.keep (fun _ hp hS => hk.cell hp hS) hs
theorem StIs.kept {S S' : Nat → Prop} {w w' : World} {x : V8} {g : St} (h : StIs S w x g) (hk : Keep S w w') (hs : ∀ i, i < w.heap.size → S i → S' i) : StIs S' w' x g := h.keep (fun _ hp hS => hk.cell hp hS) hs

section
variable {σ : Type} (f : σ → St → σ × Bool)
end
theorem snodess_append (l r : List St) : snodess (l ++ r) = snodess l + snodess r := by
  induction l with
  | nil => simp [snodess]
  | cons y t ih => rw [List.cons_append, snodess, snodess, ih]; omega

mutual
theorem snodes_tot : (g : St) → snodes g ≤ 1 + totG g
  | .mk k s t b e => by rw [snodes, totG]; have := snodess_tot b; have := snodess_tot e; omega
theorem snodess_tot : (l : List St) → snodess l ≤ totGs l
  | [] => by simp [snodess, totGs]
  | g :: r => by rw [snodess, totGs]; have := snodes_tot g; have := snodess_tot r; omega
end
theorem snodess_take (l : List St) (k : Nat) (h : k < l.length) : snodess (l.take (k + 1)) = snodess (l.take k) + snodes l[k] := by
  have e : l.take (k + 1) = l.take k ++ [l[k]] := List.take_succ_eq_append_getElem h
  rw [e, snodess_append]; simp [snodess]
theorem snodess_take_le (l : List St) (k : Nat) : snodess (l.take k) ≤ snodess l := by
  have e : snodess l = snodess (l.take k) + snodess (l.drop k) := by rw [← snodess_append, List.take_append_drop]
  omega
theorem quiet_qt {P : Program} {f : FuncId} {args : Array Value} {w : World} {n : Nat} {v : Value} (h : Calls P f args (w.drewN n) fun e w' => e = .returned v ∧ Qt (w.drewN n) w') : Calls P f args (w.drewN n) fun e w'' => e = .returned v ∧ ∃ m, w'' = w.drewN m :=
  Calls.quiet_of (h.mono fun _ _ ⟨he, m, hm⟩ => ⟨he, m, hm⟩)
theorem StRow.qt {w w' : World} {A : Option Addr} {l : List St} (h : StRow AnyB w A l) (q : Qt w w') : StRow AnyB w' A l := h.belowA q.below
theorem StRow.drewN {w : World} {A : Option Addr} {l : List St} (h : StRow AnyB w A l) (n : Nat) : StRow AnyB (w.drewN n) A l := h.qt (Qt.of_drewN _ _)

end Go.Proofs.YtefcdpkficojgaaDoor
