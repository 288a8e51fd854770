/- Several texts in one: PgIs, StrsO. -/
import Derived.Test.YtefcdpkficojgaaDoorKa22
import Derived.Test.YtefcdpkficojgaaDoorKa23
import Derived.Test.YtefcdpkficojgaaDoorKa20
import Derived.Test.YtefcdpkficojgaaDoorKa2
namespace Go.Proofs.YtefcdpkficojgaaDoor
open Go.RowKit
set_option linter.unusedVariables false


structure Pr where
  name : ByteArray
  body : List St
structure Pg where
  globals : List ByteArray
  locks : List ByteArray
  procs : List Pr
/-- the two cells of a procedure -/
structure V2 where
  s : ByteArray
  A : Option Addr
  m : Nat
  c : Nat
def V2.cells (x : V2) : List Value := [.string x.s, .slice x.A x.m x.c]
theorem v2_len (x : V2) : x.cells.length = 2 := rfl
def z2 : V2 := ⟨ByteArray.empty, none, 0, 0⟩
def PrIs (w : World) (x : V2) (p : Pr) : Prop := p.name = x.s ∧ x.m = p.body.length ∧ x.s.size ≤ maxLen ∧ p.body.length ≤ x.c ∧ x.c ≤ maxLen ∧ StRow AnyB w x.A p.body
/-- a row of procedures -/
def PrRow (w : World) (A : Option Addr) (l : List Pr) : Prop := ∃ xs : List V2, xs.length = l.length ∧ Rd w 2 A xs.length (xs.flatMap V2.cells) ∧ ∀ i (h : i < l.length) (h' : i < xs.length), PrIs w xs[i] l[i]
theorem PrIs.belowA {w w' : World} {x : V2} {p : Pr} (h : PrIs w x p) (hb : Below w.heap.size w w') : PrIs w' x p := ⟨h.1, h.2.1, h.2.2.1, h.2.2.2.1, h.2.2.2.2.1, h.2.2.2.2.2.belowA hb⟩
theorem PrRow.belowA {w w' : World} {A : Option Addr} {l : List Pr} (h : PrRow w A l) (hb : Below w.heap.size w w') : PrRow w' A l := by
  obtain ⟨xs, h1, rd, hx⟩ := h
  exact ⟨xs, h1, rd.below hb, fun i h h' => (hx i h h').belowA hb⟩
theorem PrRow.drew {w : World} {A : Option Addr} {l : List Pr} (h : PrRow w A l) : PrRow w.drew A l := h.belowA (Below.refl _ _).drew
/-- the value of a program: three slices -/
structure V3 where
  gA : Option Addr
  gc : Nat
  lA : Option Addr
  lc : Nat
  pA : Option Addr
  pc : Nat
def V3.val (x : V3) (p : Pg) : Value := .agg #[.slice x.gA p.globals.length x.gc, .slice x.lA p.locks.length x.lc, .slice x.pA p.procs.length x.pc]
structure PgIs (w : World) (x : V3) (p : Pg) : Prop where
  g1 : p.globals.length ≤ x.gc
  g2 : x.gc ≤ maxLen
  g3 : Rd w 1 x.gA p.globals.length (p.globals.map Value.string)
  g4 : ∀ s ∈ p.globals, s.size ≤ maxLen
  l1 : p.locks.length ≤ x.lc
  l2 : x.lc ≤ maxLen
  l3 : Rd w 1 x.lA p.locks.length (p.locks.map Value.string)
  l4 : ∀ s ∈ p.locks, s.size ≤ maxLen
  p1 : p.procs.length ≤ x.pc
  p2 : x.pc ≤ maxLen
  p3 : PrRow w x.pA p.procs
theorem PgIs.belowA {w w' : World} {x : V3} {p : Pg} (h : PgIs w x p) (hb : Below w.heap.size w w') : PgIs w' x p := ⟨h.g1, h.g2, h.g3.below hb, h.g4, h.l1, h.l2, h.l3.below hb, h.l4, h.p1, h.p2, h.p3.belowA hb⟩
theorem PgIs.drew {w : World} {x : V3} {p : Pg} (h : PgIs w x p) : PgIs w.drew x p := h.belowA (Below.refl _ _).drew
theorem PgIs.gs {w : World} {x : V3} {p : Pg} (h : PgIs w x p) : IsStrs w (.slice x.gA p.globals.length x.gc) p.globals := ⟨_, _, rfl, h.g1, h.g2, h.g3⟩

end Go.Proofs.YtefcdpkficojgaaDoor
