/- Several texts in one: StmtEq, Later, PgIs, StrsO. -/
import Derived.Test.YtefcdpkficojgaaDoorKb14
import Derived.Test.YtefcdpkficojgaaDoorKb2
import Derived.Deep.QuietTactic
import Derived.BigQuiet
import Derived.Test.YtefcdpkficojgaaDoorKb16
import Derived.Test.YtefcdpkficojgaaDoorKb15
namespace Go.Proofs.YtefcdpkficojgaaDoor
open Go.RowKit
set_option linter.unusedVariables false



/-- the worlds in which all that w had is as it was -/
def Later (w : World) : Type := { w' : World // Below w.heap.size w w' }
instance later_any (w : World) : Nonempty (Later w) := ⟨⟨w, Below.refl _ _⟩⟩
/-- one walk of the text's order serves every order, where each operation yields one value in every later world -/
theorem wp_region_later {P : Program} {id : Nat} {Q : Exit → Act → World → Prop} {a : Act} {w : World} {l : List Oper} (hm : P.follows .mixedOrders = true) (hB : Region.lexB .any l.toArray = true)
    (h : ∀ (g : Later w → World), (∀ n, Below w.heap.size w (g n)) → (∀ n w', Below (g n).heap.size (g n) w' → ∃ m, w' = g m) →
      wpQuiet P l.toArray (fun w' => ∃ n, w' = g n) (fun a' => ∀ w', (∃ n, w' = g n) → Q .normal a' w') l a) : (Code.region id l.toArray true).wp P Q a w :=
  wp_region_quiet (C := fun w' => ∃ n : Later w, w' = n.val) hm hB ⟨⟨_, (Below.refl w.heap.size w).drew⟩, rfl⟩
    (by simpa using h (fun n => n.val) (fun n => n.property) (fun n w' hw => ⟨⟨w', n.property.trans (hw.mono n.property.size)⟩, rfl⟩))
/-- a contract that keeps what there was, met in such a world -/
theorem later_of {P : Program} {f : FuncId} {args : Array Value} {w : World} {g : Later w → World} {n : Later w} {v : Value} (HC : Hid (∀ n w', Below (g n).heap.size (g n) w' → ∃ m, w' = g m))
    (h : Calls P f args (g n) fun e w' => e = .returned v ∧ Below (g n).heap.size (g n) w') : Calls P f args (g n) fun e w'' => e = .returned v ∧ ∃ m, w'' = g m :=
  h.mono fun _ _ ⟨he, hb⟩ => ⟨he, HC.out n _ hb⟩
theorem later_same {P : Program} {f : FuncId} {args : Array Value} {w : World} {g : Later w → World} {n : Later w} {v : Value}
    (h : Calls P f args (g n) fun e w' => e = .returned v ∧ g n = w') : Calls P f args (g n) fun e w'' => e = .returned v ∧ ∃ m, w'' = g m :=
  h.mono fun _ _ ⟨he, hw⟩ => ⟨he, n, hw.symm⟩

structure Pr where
  name : ByteArray
  body : List St
structure Pg where
  globals : List ByteArray
  locks : List ByteArray
  procs : List Pr
/-- the two cells of a procedure -/
structure V2 where
  s : ByteArray
  A : Option Addr
  m : Nat
  c : Nat
def V2.cells (x : V2) : List Value := [.string x.s, .slice x.A x.m x.c]
theorem v2_len (x : V2) : x.cells.length = 2 := rfl
def z2 : V2 := ⟨ByteArray.empty, none, 0, 0⟩
def PrIs (w : World) (x : V2) (p : Pr) : Prop := p.name = x.s ∧ x.m = p.body.length ∧ x.s.size ≤ maxLen ∧ p.body.length ≤ x.c ∧ x.c ≤ maxLen ∧ StRow AnyB w x.A p.body
/-- a row of procedures -/
def PrRow (w : World) (A : Option Addr) (l : List Pr) : Prop := ∃ xs : List V2, xs.length = l.length ∧ Rd w 2 A xs.length (xs.flatMap V2.cells) ∧ ∀ i (h : i < l.length) (h' : i < xs.length), PrIs w xs[i] l[i]
theorem PrIs.belowA {w w' : World} {x : V2} {p : Pr} (h : PrIs w x p) (hb : Below w.heap.size w w') : PrIs w' x p := ⟨h.1, h.2.1, h.2.2.1, h.2.2.2.1, h.2.2.2.2.1, h.2.2.2.2.2.belowA hb⟩
theorem PrRow.belowA {w w' : World} {A : Option Addr} {l : List Pr} (h : PrRow w A l) (hb : Below w.heap.size w w') : PrRow w' A l := by
  obtain ⟨xs, h1, rd, hx⟩ := h
  exact ⟨xs, h1, rd.below hb, fun i h h' => (hx i h h').belowA hb⟩
theorem PrRow.drew {w : World} {A : Option Addr} {l : List Pr} (h : PrRow w A l) : PrRow w.drew A l := h.belowA (Below.refl _ _).drew
/-- the value of a program: three slices -/
structure V3 where
  gA : Option Addr
  gc : Nat
  lA : Option Addr
  lc : Nat
  pA : Option Addr
  pc : Nat
def V3.val (x : V3) (p : Pg) : Value := .agg #[.slice x.gA p.globals.length x.gc, .slice x.lA p.locks.length x.lc, .slice x.pA p.procs.length x.pc]
structure PgIs (w : World) (x : V3) (p : Pg) : Prop where
  g1 : p.globals.length ≤ x.gc
  g2 : x.gc ≤ maxLen
  g3 : Rd w 1 x.gA p.globals.length (p.globals.map Value.string)
  g4 : ∀ s ∈ p.globals, s.size ≤ maxLen
  l1 : p.locks.length ≤ x.lc
  l2 : x.lc ≤ maxLen
  l3 : Rd w 1 x.lA p.locks.length (p.locks.map Value.string)
  l4 : ∀ s ∈ p.locks, s.size ≤ maxLen
  p1 : p.procs.length ≤ x.pc
  p2 : x.pc ≤ maxLen
  p3 : PrRow w x.pA p.procs
theorem PgIs.belowA {w w' : World} {x : V3} {p : Pg} (h : PgIs w x p) (hb : Below w.heap.size w w') : PgIs w' x p := ⟨h.g1, h.g2, h.g3.below hb, h.g4, h.l1, h.l2, h.l3.below hb, h.l4, h.p1, h.p2, h.p3.belowA hb⟩
theorem PgIs.drew {w : World} {x : V3} {p : Pg} (h : PgIs w x p) : PgIs w.drew x p := h.belowA (Below.refl _ _).drew
theorem PgIs.gs {w : World} {x : V3} {p : Pg} (h : PgIs w x p) : IsStrs w (.slice x.gA p.globals.length x.gc) p.globals := ⟨_, _, rfl, h.g1, h.g2, h.g3⟩

end Go.Proofs.YtefcdpkficojgaaDoor
