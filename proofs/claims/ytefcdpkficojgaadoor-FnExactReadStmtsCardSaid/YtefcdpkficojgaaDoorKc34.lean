/- Several texts in one: Reads, PgEq. -/
import Derived.Test.YtefcdpkficojgaaDoorKc6
import Derived.Test.YtefcdpkficojgaaDoorKc15
import Derived.Test.YtefcdpkficojgaaDoorKc13
import Derived.Deep.QuietTactic
import Derived.BigQuiet
import Derived.Test.YtefcdpkficojgaaDoorKc33
namespace Go.Proofs.YtefcdpkficojgaaDoor
open Go.RowKit
set_option linter.unusedVariables false


theorem OwnStrs.alloc {w0 w : World} {v : Value} {ss : List ByteArray} (h : OwnStrs w0 w v ss) (o : Obj) : OwnStrs w0 (w.alloc o) v ss := Own.alloc h o
theorem OwnStrs.cons {w0 w : World} {v : Value} {ss : List ByteArray} (h : OwnStrs w0 w v ss) : ∃ A c, v = .slice A ss.length c ∧ ss.length ≤ c := Own.slice h

def BoxB (w : World) (g : Nat) (cs : List Value) : Prop := ∀ j u, cs[j]? = some u → w.cell? ⟨g, j, none⟩ = some u
theorem BoxB.below {w w' : World} {g : Nat} {cs : List Value} (h : BoxB w g cs) (hb : Below w.heap.size w w') : BoxB w' g cs := fun j u hu => cell_keep hb (h j u hu)
theorem BoxB.lit {w : World} {g : Nat} {cs : Array Value} {e : TypeId} (h : g = w.heap.size) : BoxB (w.alloc (.cells cs e)) g cs.toList := by
  subst h
  intro j u hu
  rw [World.cell?_alloc_new]
  simpa using hu
theorem BoxB.keepS {w w' : World} {g : Nat} {cs : List Value} {S : Nat → Prop} (h : BoxB w g cs) (hk : Keep S w w') (hS : S g) : BoxB w' g cs := fun j u hu => hk.cellEq hS (h j u hu)
end Go.Proofs.YtefcdpkficojgaaDoor
