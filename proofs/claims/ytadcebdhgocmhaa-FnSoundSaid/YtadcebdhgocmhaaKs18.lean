/- Several texts in one: StmtEq, Later, PgIs, StrsO. -/
import Derived.Test.YtadcebdhgocmhaaKs14
import Derived.Test.YtadcebdhgocmhaaKs2
import Derived.Deep.QuietTactic
import Derived.BigQuiet
import Derived.Test.YtadcebdhgocmhaaKs17
import Derived.Test.YtadcebdhgocmhaaKs15
namespace Go.Proofs.Ytadcebdhgocmhaa
open Go.RowKit
set_option linter.unusedVariables false



/-- the worlds in which all that w had is as it was -/
def Later (w : World) : Type := { w' : World // Below w.heap.size w w' }
instance later_any (w : World) : Nonempty (Later w) := ⟨⟨w, Below.refl _ _⟩⟩
/-- one walk of the text's order serves every order, where each operation yields one value in every later world -/
theorem wp_region_later {P : Program} {id : Nat} {Q : Exit → Act → World → Prop} {a : Act} {w : World} {l : List Oper} (hm : P.follows .mixedOrders = true) (hB : Region.lexB .any l.toArray = true)
    (h : ∀ (g : Later w → World), (∀ n, Below w.heap.size w (g n)) → (∀ n w', Below (g n).heap.size (g n) w' → ∃ m, w' = g m) →
      wpQuiet P l.toArray (fun w' => ∃ n, w' = g n) (fun a' => ∀ w', (∃ n, w' = g n) → Q .normal a' w') l a) : (Code.region id l.toArray true).wp P Q a w :=
  wp_region_quiet (C := fun w' => ∃ n : Later w, w' = n.val) hm hB ⟨⟨_, (Below.refl w.heap.size w).drew⟩, rfl⟩
    (by simpa using h (fun n => n.val) (fun n => n.property) (fun n w' hw => ⟨⟨w', n.property.trans (hw.mono n.property.size)⟩, rfl⟩))

structure Pr where
  name : ByteArray
  body : List St
structure Pg where
  globals : List ByteArray
  locks : List ByteArray
  procs : List Pr
/-- the two cells of a procedure -/
structure V2 where
  s : ByteArray
  A : Option Addr
  m : Nat
  c : Nat
def V2.cells (x : V2) : List Value := [.string x.s, .slice x.A x.m x.c]
theorem v2_len (x : V2) : x.cells.length = 2 := rfl
def z2 : V2 := ⟨ByteArray.empty, none, 0, 0⟩
def PrIs (w : World) (x : V2) (p : Pr) : Prop := p.name = x.s ∧ x.m = p.body.length ∧ x.s.size ≤ maxLen ∧ p.body.length ≤ x.c ∧ x.c ≤ maxLen ∧ StRow AnyB w x.A p.body
/-- a row of procedures -/
def PrRow (w : World) (A : Option Addr) (l : List Pr) : Prop := ∃ xs : List V2, xs.length = l.length ∧ Rd w 2 A xs.length (xs.flatMap V2.cells) ∧ ∀ i (h : i < l.length) (h' : i < xs.length), PrIs w xs[i] l[i]
theorem PrIs.belowA {w w' : World} {x : V2} {p : Pr} (h : PrIs w x p) (hb : Below w.heap.size w w') : PrIs w' x p := ⟨h.1, h.2.1, h.2.2.1, h.2.2.2.1, h.2.2.2.2.1, h.2.2.2.2.2.belowA hb⟩
theorem PrRow.belowA {w w' : World} {A : Option Addr} {l : List Pr} (h : PrRow w A l) (hb : Below w.heap.size w w') : PrRow w' A l := by
  obtain ⟨xs, h1, rd, hx⟩ := h
  exact ⟨xs, h1, rd.below hb, fun i h h' => (hx i h h').belowA hb⟩
theorem PrRow.drew {w : World} {A : Option Addr} {l : List Pr} (h : PrRow w A l) : PrRow w.drew A l := h.belowA (Below.refl _ _).drew
/-- the cells of element k of a row -/
theorem rd_proc {w : World} {A : Option Addr} {l : List Pr} (row : PrRow w A l) {k : Nat} (hk : k < l.length) :
    ∃ b off x, A = some ⟨b, off, none⟩ ∧ w.cell? ⟨b, off + k * 2, none⟩ = some (.string x.s) ∧ w.cell? ⟨b, off + k * 2 + 1, none⟩ = some (.slice x.A x.m x.c) ∧ PrIs w x l[k] := by
  obtain ⟨xs, hl, rd, hx⟩ := row
  have hk' : k < xs.length := by omega
  obtain ⟨b, off, e, hc⟩ := rd_flat v2_len rd hk'
  exact ⟨b, off, xs[k], e, hc 0 _ (by decide) rfl, hc 1 _ (by decide) rfl, hx k hk hk'⟩
/-- the value of a program: three slices -/
structure V3 where
  gA : Option Addr
  gc : Nat
  lA : Option Addr
  lc : Nat
  pA : Option Addr
  pc : Nat
def V3.val (x : V3) (p : Pg) : Value := .agg #[.slice x.gA p.globals.length x.gc, .slice x.lA p.locks.length x.lc, .slice x.pA p.procs.length x.pc]
structure PgIs (w : World) (x : V3) (p : Pg) : Prop where
  g1 : p.globals.length ≤ x.gc
  g2 : x.gc ≤ maxLen
  g3 : Rd w 1 x.gA p.globals.length (p.globals.map Value.string)
  g4 : ∀ s ∈ p.globals, s.size ≤ maxLen
  l1 : p.locks.length ≤ x.lc
  l2 : x.lc ≤ maxLen
  l3 : Rd w 1 x.lA p.locks.length (p.locks.map Value.string)
  l4 : ∀ s ∈ p.locks, s.size ≤ maxLen
  p1 : p.procs.length ≤ x.pc
  p2 : x.pc ≤ maxLen
  p3 : PrRow w x.pA p.procs
theorem PgIs.belowA {w w' : World} {x : V3} {p : Pg} (h : PgIs w x p) (hb : Below w.heap.size w w') : PgIs w' x p := ⟨h.g1, h.g2, h.g3.below hb, h.g4, h.l1, h.l2, h.l3.below hb, h.l4, h.p1, h.p2, h.p3.belowA hb⟩
theorem PgIs.drew {w : World} {x : V3} {p : Pg} (h : PgIs w x p) : PgIs w.drew x p := h.belowA (Below.refl _ _).drew
theorem PgIs.gs {w : World} {x : V3} {p : Pg} (h : PgIs w x p) : IsStrs w (.slice x.gA p.globals.length x.gc) p.globals := ⟨_, _, rfl, h.g1, h.g2, h.g3⟩
theorem PgIs.ls {w : World} {x : V3} {p : Pg} (h : PgIs w x p) : IsStrs w (.slice x.lA p.locks.length x.lc) p.locks := ⟨_, _, rfl, h.l1, h.l2, h.l3⟩
def totPr (p : Pr) : Nat := p.name.size + totGs p.body
def totPrs : List Pr → Nat | [] => 0 | p :: r => 1 + totPr p + totPrs r
def totPg (p : Pg) : Nat := totS p.globals + totS p.locks + totPrs p.procs
theorem totPrs_le {l : List Pr} {x : Pr} (h : x ∈ l) : totPr x ≤ totPrs l := by
  induction l with
  | nil => cases h
  | cons y r ih =>
    rw [totPrs]
    rcases List.mem_cons.1 h with rfl | h
    · omega
    · have := ih h; omega
theorem totPrs_append (l r : List Pr) : totPrs (l ++ r) = totPrs l + totPrs r := by
  induction l with
  | nil => simp [totPrs]
  | cons y t ih => rw [List.cons_append, totPrs, totPrs, ih]; omega
theorem totPrs_take (l : List Pr) (k : Nat) (h : k < l.length) : totPrs (l.take (k + 1)) = totPrs (l.take k) + 1 + totPr l[k] := by
  have e : l.take (k + 1) = l.take k ++ [l[k]] := List.take_succ_eq_append_getElem h
  rw [e, totPrs_append, totPrs, totPrs]; omega

end Go.Proofs.Ytadcebdhgocmhaa
