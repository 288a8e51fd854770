/- Worlds in which some blocks are as they were. -/
import Derived.Test.YtefcdpkficojgaaDoorOpen
namespace Go.Proofs.YtefcdpkficojgaaDoor
open Go.RowKit
set_option linter.unusedVariables false

/-- the blocks of S are as they were -/
structure Keep (S : Nat → Prop) (w w' : World) : Prop where
  os : w'.os = w.os
  tape : w'.tape = w.tape
  output : w'.output = w.output
  size : w.heap.size ≤ w'.heap.size
  block : ∀ k, k < w.heap.size → S k → w'.heap[k]? = w.heap[k]?
theorem Keep.refl (S : Nat → Prop) (w : World) : Keep S w w := ⟨rfl, rfl, rfl, Nat.le_refl _, fun _ _ _ => rfl⟩
theorem Keep.trans {S S' : Nat → Prop} {a b c : World} (h : Keep S a b) (k : Keep S' b c) (hs : ∀ i, i < a.heap.size → S i → S' i) : Keep S a c :=
  ⟨k.os.trans h.os, k.tape.trans h.tape, k.output.trans h.output, Nat.le_trans h.size k.size, fun i hi hS => (k.block i (Nat.lt_of_lt_of_le hi h.size) (hs i hi hS)).trans (h.block i hi hS)⟩
theorem Keep.of_below {S : Nat → Prop} {w w' : World} (h : Below w.heap.size w w') : Keep S w w' := ⟨h.os, h.tape, h.output, h.size, fun k hk _ => h.block k hk⟩
theorem Keep.below {S : Nat → Prop} {w w' : World} {n : Nat} (h : Keep S w w') (hn : n ≤ w.heap.size) (hs : ∀ b, b < n → S b) : Below n w w' := ⟨h.os, h.tape, h.output, h.size, fun k hk => h.block k (by omega) (hs k hk)⟩
theorem Keep.cell {S : Nat → Prop} {w w' : World} (h : Keep S w w') {p : Addr} (hp : p.block < w.heap.size) (hS : S p.block) : w'.cell? p = w.cell? p := World.cell?_of_block (w := w) (h.block p.block hp hS)
theorem Keep.cellEq {S : Nat → Prop} {w w' : World} (h : Keep S w w') {p : Addr} {v : Value} (hS : S p.block) (hv : w.cell? p = some v) : w'.cell? p = some v := (h.cell (cell_lt hv) hS).trans hv
theorem Keep.setCell {S : Nat → Prop} {w w' : World} {p : Addr} (h : Keep S w w') (hp : ¬ S p.block) (u : Value) : Keep S w (w'.setCell p u) :=
  ⟨h.os, h.tape, h.output, by simpa using h.size, fun k hk hS => (Below.heap_setCell w' p u k (fun e => hp (by rw [← e]; exact hS))).trans (h.block k hk hS)⟩
theorem Keep.alloc {S : Nat → Prop} {w w' : World} (h : Keep S w w') (o : Obj) : Keep S w (w'.alloc o) := h.trans (Keep.of_below (S := S) (Below.alloc (Below.refl _ _) (Nat.le_refl _) _)) (fun _ _ h => h)
theorem heap_alloc_lt {w : World} {o : Obj} {k : Nat} (h : k < w.heap.size) : (w.alloc o).heap[k]? = w.heap[k]? := (Below.alloc (Below.refl w.heap.size w) (Nat.le_refl _) o).block k h
/-- blocks of another kind than t's rows -/
def Sane (t : TypeId) (w : World) : Nat → Prop := fun k => ∀ cur, w.heap[k]? ≠ some (.cells cur t (0, 0))
/-- all that is no row of t's is as it was -/
abbrev KeepT (t : TypeId) (w w' : World) : Prop := Keep (Sane t w) w w'
theorem KeepT.trans' {t : TypeId} {a b c : World} (h : KeepT t a b) (k : KeepT t b c) : KeepT t a c := Keep.trans h k (fun i hi hS cur e => hS cur ((h.block i hi hS).symm.trans e))
theorem KeepT.refl' (t : TypeId) (w : World) : KeepT t w w := Keep.refl _ _
theorem KeepT.of_below' {t : TypeId} {w w' : World} (h : Below w.heap.size w w') : KeepT t w w' := Keep.of_below h
theorem KeepT.cellT {t : TypeId} {w w' : World} (h : KeepT t w w') {p : Addr} {v : Value} (hS : Sane t w p.block) (hv : w.cell? p = some v) : w'.cell? p = some v := h.cellEq hS hv
theorem sane_of {t t' : TypeId} {w : World} {k : Nat} {cur : Array Value} {fr : Nat × Nat} (h : w.heap[k]? = some (.cells cur t' fr)) (hne : t' ≠ t) : Sane t w k := fun cur' e => by
  rw [h] at e
  injection e with e
  injection e with _ e
  exact hne e
theorem sane_new {t t' : TypeId} {w : World} {cs : Array Value} (hne : t' ≠ t) : Sane t (w.alloc (.cells cs t')) w.heap.size := sane_of (heap_alloc_new _ _) hne
theorem sane_below {t : TypeId} {w w' : World} {k : Nat} (h : Sane t w k) (hk : k < w.heap.size) (hb : Below w.heap.size w w') : Sane t w' k := fun cur e => h cur ((hb.block k hk).symm.trans e)
theorem sane_keep {t : TypeId} {w w' : World} {k : Nat} (h : Sane t w k) (hk : k < w.heap.size) (hb : KeepT t w w') : Sane t w' k := fun cur e => h cur ((hb.block k hk h).symm.trans e)
/-- append of what has just been laid in a new block onto a row of the call's own: the row grows, and nothing else but rows of its kind is touched -/
theorem wpList_app_keep {P : Program} {w0 w : World} {ops : Array Oper} {rest : List Oper} {o : Oper} {a : Act} {Q : Exit → Act → World → Prop} (hgd : o.guard = none) (s x : Operand) (t : TypeId)
    (ho : o.op = .call { callee := .builtin .append, args := #[s, x], argTypes := #[t, t] }) {e : TypeId} {sz bt : Nat} (T : ElemT P t e sz bt) {v : Value} {n : Nat} {xs : List Value} (own : Own w0 w e sz v n xs)
    (cs : Array Value) (m : Nat) (hs : a.eval s = v) (hx : a.eval x = .slice (some ⟨w.heap.size, 0, none⟩) m m) (hl : cs.size = m * sz) (h1 : ∀ u ∈ cs.toList, u.oneCell' = true) (h63 : n + m ≤ maxLen) (hb : (n + m) * bt ≤ 140737488355328)
    (h : ∀ v' w', Own w0 w' e sz v' (n + m) (xs ++ cs.toList) → KeepT e w w' → wpList P ops Q rest (a.put o.dst v') w') : wpList P ops Q (o :: rest) a (w.alloc (.cells cs e)) := by
  refine wpList_plain hgd fun K hK => ?_
  obtain ⟨i, z, hi, hz, hs', hbt, hzs⟩ := T.info
  have rd := Rd.new w sz m cs e hl
  have hcells : ∀ j u, cs.toList[j]? = some u → (w.alloc (.cells cs e)).cell? ((⟨w.heap.size, 0, none⟩ : Addr).add j) = some u := by
    intro j u hu
    rw [Addr.add_lit, Nat.zero_add, World.cell?_alloc_new]
    simpa using hu
  have own' := own.alloc (.cells cs e)
  obtain ⟨v', w', hr, h2, h3, _⟩ := run_append_own (P := P) (w.alloc (.cells cs e)) w0.heap.size t o.type e i z sz bt T.under hi hz hs' hbt hzs T.pos v n xs own'.1 ⟨w.heap.size, 0, none⟩ m m cs.toList (by simpa using hl) hcells h1 h63 hb own'.2.size
  unfold Oper.wp execOp
  simp only [ho, resolve, invoke, builtin, Sem.run_bind, Sem.run_pure, Result.andThen_ok, List.map_toArray, List.map_cons, List.map_nil, hs, hx, hr]
  refine hK _ _ (h v' w' (own'.grown h2 h3) ?_)
  obtain ⟨q1, q2, q3, q4, q5⟩ := h3
  refine ⟨q1, q2, q3, by simp at q4; omega, fun k hk hS => ?_⟩
  rw [q5 k (by simp; omega) ?_, heap_alloc_lt hk]
  intro e1
  rcases own.1.2 with ⟨rfl, _⟩ | ⟨g, cap, cur, rfl, _, hg, _⟩
  · cases e1
  · injection e1 with e1
    subst e1
    exact hS cur hg
/-- the same, the new block's number spelled otherwise -/
theorem wpList_app_keepG {P : Program} {w0 w : World} {ops : Array Oper} {rest : List Oper} {o : Oper} {a : Act} {Q : Exit → Act → World → Prop} (g : Nat) (hg : g = w.heap.size) (hgd : o.guard = none) (s x : Operand) (t : TypeId)
    (ho : o.op = .call { callee := .builtin .append, args := #[s, x], argTypes := #[t, t] }) {e : TypeId} {sz bt : Nat} (T : ElemT P t e sz bt) {v : Value} {n : Nat} {xs : List Value} (own : Own w0 w e sz v n xs)
    (cs : Array Value) (m : Nat) (hs : a.eval s = v) (hx : a.eval x = .slice (some ⟨g, 0, none⟩) m m) (hl : cs.size = m * sz) (h1 : ∀ u ∈ cs.toList, u.oneCell' = true) (h63 : n + m ≤ maxLen) (hb : (n + m) * bt ≤ 140737488355328)
    (h : ∀ v' w', Own w0 w' e sz v' (n + m) (xs ++ cs.toList) → KeepT e w w' → wpList P ops Q rest (a.put o.dst v') w') : wpList P ops Q (o :: rest) a (w.alloc (.cells cs e)) := by
  subst hg
  exact wpList_app_keep hgd s x t ho T own cs m hs hx hl h1 h63 hb h
end Go.Proofs.YtefcdpkficojgaaDoor
