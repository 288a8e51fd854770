/- Counting statements: the reference's and the program's CountIn, and the law over them. -/
import Derived.Test.YtkipkincggajcaaVisit
import Derived.Test.YtkipkincggajcaaStmtEq
import Derived.Deep.QuietTactic
import Derived.BigQuiet
import Derived.OneCell
namespace Go.Proofs.Ytkipkincggajcaa
open Go.RowKit
set_option linter.unusedVariables false

mutual
theorem snodes_tot : (g : St) → snodes g ≤ 1 + totG g
  | .mk k s t b e => by rw [snodes, totG]; have := snodess_tot b; have := snodess_tot e; omega
theorem snodess_tot : (l : List St) → snodess l ≤ totGs l
  | [] => by simp [snodess, totGs]
  | g :: r => by rw [snodess, totGs]; have := snodes_tot g; have := snodess_tot r; omega
end
theorem snodess_take (l : List St) (k : Nat) (h : k < l.length) : snodess (l.take (k + 1)) = snodess (l.take k) + snodes l[k] := by
  have e : l.take (k + 1) = l.take k ++ [l[k]] := List.take_succ_eq_append_getElem h
  rw [e, snodess_append]; simp [snodess]
theorem snodess_take_le (l : List St) (k : Nat) : snodess (l.take k) ≤ snodess l := by
  have e : snodess l = snodess (l.take k) + snodess (l.drop k) := by rw [← snodess_append, List.take_append_drop]
  omega
theorem quiet_qt {P : Program} {f : FuncId} {args : Array Value} {w : World} {n : Nat} {v : Value} (h : Calls P f args (w.drewN n) fun e w' => e = .returned v ∧ Qt (w.drewN n) w') : Calls P f args (w.drewN n) fun e w'' => e = .returned v ∧ ∃ m, w'' = w.drewN m :=
  Calls.quiet_of (h.mono fun _ _ ⟨he, m, hm⟩ => ⟨he, m, hm⟩)
theorem StRow.qt {w w' : World} {A : Option Addr} {l : List St} (h : StRow AnyB w A l) (q : Qt w w') : StRow AnyB w' A l := h.belowA q.below
theorem StRow.drewN {w : World} {A : Option Addr} {l : List St} (h : StRow AnyB w A l) (n : Nat) : StRow AnyB (w.drewN n) A l := h.qt (Qt.of_drewN _ _)
mutual
theorem count_visT (n : Nat) : (g : St) → visT (fun (n : Nat) (_ : St) => (n + 1, true)) n g = (n + snodes g, true)
  | .mk k s t b e => by
    rw [visT]
    simp only
    rw [count_visTs (n + 1) b]
    simp only
    rw [count_visTs _ e, snodes]
    congr 1; omega
theorem count_visTs (n : Nat) : (l : List St) → visTs (fun (n : Nat) (_ : St) => (n + 1, true)) n l = (n + snodess l, true)
  | [] => by rw [visTs, snodess, Nat.add_zero]
  | g :: r => by
    rw [visTs, count_visT n g]
    simp only
    rw [count_visTs _ r, snodess]
    congr 1; omega
end
end Go.Proofs.Ytkipkincggajcaa
