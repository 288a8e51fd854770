/- Several texts in one: TermHelp. -/
import Derived.Test.YtefcdpkficojgaaDoorKb5
namespace Go.Proofs.YtefcdpkficojgaaDoor
open Go.RowKit
set_option linter.unusedVariables false


theorem TmRow.setF {lo : Nat} {w : World} {A : Option Addr} {ts : List Tm} (h : TmRow (Fr lo w) w A ts) {p : Addr} (hp : p.block < lo) (u : Value) : TmRow (Fr lo (w.setCell p u)) (w.setCell p u) A ts :=
  h.keep (fun q _ hq => World.cell?_setCell_other w p q u (fun e => by subst e; have := hq.1; omega)) (fun b _ ⟨h1, cur, e, h2⟩ => ⟨h1, cur, e, (Below.heap_setCell w p u b (by omega)).trans h2⟩)
theorem TmRow.mono {lo lo' : Nat} {w : World} {A : Option Addr} {ts : List Tm} (h : TmRow (Fr lo w) w A ts) (hl : lo' ≤ lo) : TmRow (Fr lo' w) w A ts := h.keep (fun _ _ _ => rfl) (fun b _ ⟨h1, h2⟩ => ⟨by omega, h2⟩)
theorem old_cells {W w1 : World} (hb : Below W.heap.size W w1) : (∀ b o, b < W.heap.size → w1.cell? ⟨b, o, none⟩ = W.cell? ⟨b, o, none⟩) ∧ (∀ b o, b < W.heap.size → w1.frozen? ⟨b, o, none⟩ = W.frozen? ⟨b, o, none⟩) :=
  ⟨fun b o h => hb.cell (p := ⟨b, o, none⟩) h, fun b o h => hb.frozen (p := ⟨b, o, none⟩) h⟩
/-- four cells, as one thing -/
abbrev V4 := Value × Value × Value × Value
def f4 (x : V4) : List Value := [x.1, x.2.1, x.2.2.1, x.2.2.2]
def vt (k n : Int) (s : ByteArray) (A : Option Addr) (m c : Nat) : V4 := (.int .i64 k, .int .i64 n, .string s, .slice A m c)
/-- a world in which four cells of a row have been written -/
def put4 (w : World) (g o : Nat) (x : V4) : World := (((w.setCell ⟨g, o, none⟩ x.1).setCell ⟨g, o + 1, none⟩ x.2.1).setCell ⟨g, o + 2, none⟩ x.2.2.1).setCell ⟨g, o + 3, none⟩ x.2.2.2
theorem Own.put4 {w0 w : World} {e : TypeId} {g n cap : Nat} {xs : List Value} (h : Own w0 w e 4 (.slice (some ⟨g, 0, none⟩) n cap) n xs) (o : Nat) (x : V4) : Own w0 (put4 w g o x) e 4 (.slice (some ⟨g, 0, none⟩) n cap) n (sets xs o (f4 x)) :=
  (((h.set o x.1).set (o + 1) x.2.1).set (o + 2) x.2.2.1).set (o + 3) x.2.2.2
theorem TmIs.put4F {lo : Nat} {w : World} {cs : List Value} {t : Tm} (h : TmIs (Fr lo w) w cs t) {g : Nat} (hg : g < lo) (o : Nat) (x : V4) : TmIs (Fr lo (put4 w g o x)) (put4 w g o x) cs t :=
  (((h.setF (p := ⟨g, o, none⟩) hg _).setF (p := ⟨g, o + 1, none⟩) hg _).setF (p := ⟨g, o + 2, none⟩) hg _).setF (p := ⟨g, o + 3, none⟩) hg _
theorem TmRow.put4F {lo : Nat} {w : World} {A : Option Addr} {ts : List Tm} (h : TmRow (Fr lo w) w A ts) {g : Nat} (hg : g < lo) (o : Nat) (x : V4) : TmRow (Fr lo (put4 w g o x)) (put4 w g o x) A ts :=
  (((h.setF (p := ⟨g, o, none⟩) hg _).setF (p := ⟨g, o + 1, none⟩) hg _).setF (p := ⟨g, o + 2, none⟩) hg _).setF (p := ⟨g, o + 3, none⟩) hg _
theorem flat_chunk {α : Type} (f : α → List Value) (sz : Nat) (hf : ∀ x, (f x).length = sz) (xs : List α) (k : Nat) (hk : k < xs.length) : ((xs.flatMap f).drop (k * sz)).take sz = f xs[k] := by
  apply List.ext_getElem?
  intro j
  rw [List.getElem?_take]
  by_cases hj : j < sz
  · rw [if_pos hj, List.getElem?_drop, flat_get f sz hf xs k j hk hj]
  · rw [if_neg hj, List.getElem?_eq_none (by rw [hf]; omega)]
/-- a variable that holds a term: its four cells -/
def Box4 (w : World) (g : Nat) (x : V4) : Prop := w.cell? ⟨g, 0, none⟩ = some x.1 ∧ w.cell? ⟨g, 1, none⟩ = some x.2.1 ∧ w.cell? ⟨g, 2, none⟩ = some x.2.2.1 ∧ w.cell? ⟨g, 3, none⟩ = some x.2.2.2
theorem Box4.below {w w' : World} {g : Nat} {x : V4} (h : Box4 w g x) (hb : Below w.heap.size w w') : Box4 w' g x := ⟨cell_keep hb h.1, cell_keep hb h.2.1, cell_keep hb h.2.2.1, cell_keep hb h.2.2.2⟩
theorem Box4.new (w : World) (x : V4) (e : TypeId) : Box4 (w.alloc (.cells #[x.1, x.2.1, x.2.2.1, x.2.2.2] e)) w.heap.size x := by
  refine ⟨?_, ?_, ?_, ?_⟩ <;> rw [World.cell?_alloc_new] <;> rfl
theorem Box4.lit {w : World} {g : Nat} {a b c d : Value} {e : TypeId} (h : g = w.heap.size) : Box4 (w.alloc (.cells #[a, b, c, d] e)) g (a, b, c, d) := by
  subst h
  refine ⟨?_, ?_, ?_, ?_⟩ <;> rw [World.cell?_alloc_new] <;> rfl
theorem Box4.lt {w : World} {g : Nat} {x : V4} (h : Box4 w g x) : g < w.heap.size := cell_lt h.1
/-- what a copy of a term, of terms, comes back as -/
def RetT (w : World) (t : Tm) (e : Ending) (w' : World) : Prop := ∃ k n s A m c, e = .returned (.agg #[.int .i64 k, .int .i64 n, .string s, .slice A m c]) ∧ TmIs (Fr w.heap.size w') w' [.int .i64 k, .int .i64 n, .string s, .slice A m c] t ∧ Below w.heap.size w w'
theorem tmT : ElemT Tryd.prog 22 24 4 56 := ElemT.mk' (z := .agg #[.int .i64 0, .int .i64 0, .string ByteArray.empty, .slice none 0 0]) Tryd.underlying22 (by kernel_rfl) rfl (by decide)
end Go.Proofs.YtefcdpkficojgaaDoor
