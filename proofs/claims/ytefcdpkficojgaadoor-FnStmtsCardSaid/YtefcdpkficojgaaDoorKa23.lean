/- Several texts in one: StmtEq, Later. -/
import Derived.Test.YtefcdpkficojgaaDoorKa19
import Derived.Test.YtefcdpkficojgaaDoorKa2
import Derived.Deep.QuietTactic
import Derived.BigQuiet
namespace Go.Proofs.YtefcdpkficojgaaDoor
open Go.RowKit
set_option linter.unusedVariables false



/-- the worlds in which all that w had is as it was -/
def Later (w : World) : Type := { w' : World // Below w.heap.size w w' }
instance later_any (w : World) : Nonempty (Later w) := ⟨⟨w, Below.refl _ _⟩⟩
/-- one walk of the text's order serves every order, where each operation yields one value in every later world -/
theorem wp_region_later {P : Program} {id : Nat} {Q : Exit → Act → World → Prop} {a : Act} {w : World} {l : List Oper} (hm : P.follows .mixedOrders = true) (hB : Region.lexB .any l.toArray = true)
    (h : ∀ (g : Later w → World), (∀ n, Below w.heap.size w (g n)) → (∀ n w', Below (g n).heap.size (g n) w' → ∃ m, w' = g m) →
      wpQuiet P l.toArray (fun w' => ∃ n, w' = g n) (fun a' => ∀ w', (∃ n, w' = g n) → Q .normal a' w') l a) : (Code.region id l.toArray true).wp P Q a w :=
  wp_region_quiet (C := fun w' => ∃ n : Later w, w' = n.val) hm hB ⟨⟨_, (Below.refl w.heap.size w).drew⟩, rfl⟩
    (by simpa using h (fun n => n.val) (fun n => n.property) (fun n w' hw => ⟨⟨w', n.property.trans (hw.mono n.property.size)⟩, rfl⟩))
/-- a contract that keeps what there was, met in such a world -/
theorem later_of {P : Program} {f : FuncId} {args : Array Value} {w : World} {g : Later w → World} {n : Later w} {v : Value} (HC : Hid (∀ n w', Below (g n).heap.size (g n) w' → ∃ m, w' = g m))
    (h : Calls P f args (g n) fun e w' => e = .returned v ∧ Below (g n).heap.size (g n) w') : Calls P f args (g n) fun e w'' => e = .returned v ∧ ∃ m, w'' = g m :=
  h.mono fun _ _ ⟨he, hb⟩ => ⟨he, HC.out n _ hb⟩
theorem later_same {P : Program} {f : FuncId} {args : Array Value} {w : World} {g : Later w → World} {n : Later w} {v : Value}
    (h : Calls P f args (g n) fun e w' => e = .returned v ∧ g n = w') : Calls P f args (g n) fun e w'' => e = .returned v ∧ ∃ m, w'' = g m :=
  h.mono fun _ _ ⟨he, hw⟩ => ⟨he, n, hw.symm⟩
end Go.Proofs.YtefcdpkficojgaaDoor
