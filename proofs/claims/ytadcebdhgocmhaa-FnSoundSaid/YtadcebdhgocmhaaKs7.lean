/- Several texts in one: TermHelp. -/
import Derived.Test.YtadcebdhgocmhaaKs6
namespace Go.Proofs.Ytadcebdhgocmhaa
open Go.RowKit
set_option linter.unusedVariables false


theorem TmRow.mono {lo lo' : Nat} {w : World} {A : Option Addr} {ts : List Tm} (h : TmRow (Fr lo w) w A ts) (hl : lo' ≤ lo) : TmRow (Fr lo' w) w A ts := h.keep (fun _ _ _ => rfl) (fun b _ ⟨h1, h2⟩ => ⟨by omega, h2⟩)
/-- four cells, as one thing -/
abbrev V4 := Value × Value × Value × Value
def f4 (x : V4) : List Value := [x.1, x.2.1, x.2.2.1, x.2.2.2]
def z4 : V4 := (.int .i64 0, .int .i64 0, .string ByteArray.empty, .slice none 0 0)
def vt (k n : Int) (s : ByteArray) (A : Option Addr) (m c : Nat) : V4 := (.int .i64 k, .int .i64 n, .string s, .slice A m c)
/-- a world in which four cells of a row have been written -/
def put4 (w : World) (g o : Nat) (x : V4) : World := (((w.setCell ⟨g, o, none⟩ x.1).setCell ⟨g, o + 1, none⟩ x.2.1).setCell ⟨g, o + 2, none⟩ x.2.2.1).setCell ⟨g, o + 3, none⟩ x.2.2.2
theorem Own.put4 {w0 w : World} {e : TypeId} {g n cap : Nat} {xs : List Value} (h : Own w0 w e 4 (.slice (some ⟨g, 0, none⟩) n cap) n xs) (o : Nat) (x : V4) : Own w0 (put4 w g o x) e 4 (.slice (some ⟨g, 0, none⟩) n cap) n (sets xs o (f4 x)) :=
  (((h.set o x.1).set (o + 1) x.2.1).set (o + 2) x.2.2.1).set (o + 3) x.2.2.2
theorem flat_chunk {α : Type} (f : α → List Value) (sz : Nat) (hf : ∀ x, (f x).length = sz) (xs : List α) (k : Nat) (hk : k < xs.length) : ((xs.flatMap f).drop (k * sz)).take sz = f xs[k] := by
  apply List.ext_getElem?
  intro j
  rw [List.getElem?_take]
  by_cases hj : j < sz
  · rw [if_pos hj, List.getElem?_drop, flat_get f sz hf xs k j hk hj]
  · rw [if_neg hj, List.getElem?_eq_none (by rw [hf]; omega)]
/-- a variable that holds a term: its four cells -/
def Box4 (w : World) (g : Nat) (x : V4) : Prop := w.cell? ⟨g, 0, none⟩ = some x.1 ∧ w.cell? ⟨g, 1, none⟩ = some x.2.1 ∧ w.cell? ⟨g, 2, none⟩ = some x.2.2.1 ∧ w.cell? ⟨g, 3, none⟩ = some x.2.2.2
theorem Box4.below {w w' : World} {g : Nat} {x : V4} (h : Box4 w g x) (hb : Below w.heap.size w w') : Box4 w' g x := ⟨cell_keep hb h.1, cell_keep hb h.2.1, cell_keep hb h.2.2.1, cell_keep hb h.2.2.2⟩
theorem Box4.new (w : World) (x : V4) (e : TypeId) : Box4 (w.alloc (.cells #[x.1, x.2.1, x.2.2.1, x.2.2.2] e)) w.heap.size x := by
  refine ⟨?_, ?_, ?_, ?_⟩ <;> rw [World.cell?_alloc_new] <;> rfl
theorem Box4.lit {w : World} {g : Nat} {a b c d : Value} {e : TypeId} (h : g = w.heap.size) : Box4 (w.alloc (.cells #[a, b, c, d] e)) g (a, b, c, d) := by
  subst h
  refine ⟨?_, ?_, ?_, ?_⟩ <;> rw [World.cell?_alloc_new] <;> rfl
theorem Box4.lt {w : World} {g : Nat} {x : V4} (h : Box4 w g x) : g < w.heap.size := cell_lt h.1
end Go.Proofs.Ytadcebdhgocmhaa
