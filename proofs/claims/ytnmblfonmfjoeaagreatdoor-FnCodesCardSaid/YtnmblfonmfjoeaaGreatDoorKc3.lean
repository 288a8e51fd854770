/- Lemmas for the row. -/
import Derived.Test.YtnmblfonmfjoeaaGreatDoorKc2
namespace Go.Proofs.YtnmblfonmfjoeaaGreatDoor
open Go.RowKit
set_option linter.unusedVariables false
theorem TmRow.mono {lo lo' : Nat} {w : World} {A : Option Addr} {ts : List Tm} (h : TmRow (Fr lo w) w A ts) (hl : lo' ≤ lo) : TmRow (Fr lo' w) w A ts := h.keep (fun _ _ _ => rfl) (fun b _ ⟨h1, h2⟩ => ⟨by omega, h2⟩)
theorem old_cells {W w1 : World} (hb : Below W.heap.size W w1) : (∀ b o, b < W.heap.size → w1.cell? ⟨b, o, none⟩ = W.cell? ⟨b, o, none⟩) ∧ (∀ b o, b < W.heap.size → w1.frozen? ⟨b, o, none⟩ = W.frozen? ⟨b, o, none⟩) :=
 ⟨fun b o h => hb.cell (p := ⟨b, o, none⟩) h, fun b o h => hb.frozen (p := ⟨b, o, none⟩) h⟩
abbrev V4 := Value × Value × Value × Value
def f4 (x : V4) : List Value := [x.1, x.2.1, x.2.2.1, x.2.2.2]
def z4 : V4 := (.int .i64 0, .int .i64 0, .string ByteArray.empty, .slice none 0 0)
def vt (k n : Int) (s : ByteArray) (A : Option Addr) (m c : Nat) : V4 := (.int .i64 k, .int .i64 n, .string s, .slice A m c)
def put4 (w : World) (g o : Nat) (x : V4) : World := (((w.setCell ⟨g, o, none⟩ x.1).setCell ⟨g, o + 1, none⟩ x.2.1).setCell ⟨g, o + 2, none⟩ x.2.2.1).setCell ⟨g, o + 3, none⟩ x.2.2.2
theorem Own.put4 {w0 w : World} {e : TypeId} {g n cap : Nat} {xs : List Value} (h : Own w0 w e 4 (.slice (some ⟨g, 0, none⟩) n cap) n xs) (o : Nat) (x : V4) : Own w0 (put4 w g o x) e 4 (.slice (some ⟨g, 0, none⟩) n cap) n (sets xs o (f4 x)) :=
 (((h.set o x.1).set (o + 1) x.2.1).set (o + 2) x.2.2.1).set (o + 3) x.2.2.2
theorem flat_chunk {α : Type} (f : α → List Value) (sz : Nat) (hf : ∀ x, (f x).length = sz) (xs : List α) (k : Nat) (hk : k < xs.length) : ((xs.flatMap f).drop (k * sz)).take sz = f xs[k] := by
 apply List.ext_getElem?
 intro j
 rw [List.getElem?_take]
 by_cases hj : j < sz
 ·rw [if_pos hj, List.getElem?_drop, flat_get f sz hf xs k j hk hj]
 ·rw [if_neg hj, List.getElem?_eq_none (by rw [hf]; omega)]
def Box4 (w : World) (g : Nat) (x : V4) : Prop := w.cell? ⟨g, 0, none⟩ = some x.1 ∧ w.cell? ⟨g, 1, none⟩ = some x.2.1 ∧ w.cell? ⟨g, 2, none⟩ = some x.2.2.1 ∧ w.cell? ⟨g, 3, none⟩ = some x.2.2.2
theorem Box4.below {w w' : World} {g : Nat} {x : V4} (h : Box4 w g x) (hb : Below w.heap.size w w') : Box4 w' g x := ⟨cell_keep hb h.1, cell_keep hb h.2.1, cell_keep hb h.2.2.1, cell_keep hb h.2.2.2⟩
theorem Box4.new (w : World) (x : V4) (e : TypeId) : Box4 (w.alloc (.cells #[x.1, x.2.1, x.2.2.1, x.2.2.2] e)) w.heap.size x := by
 refine ⟨?_, ?_, ?_, ?_⟩ <;> rw [World.cell?_alloc_new] <;> rfl
theorem Box4.lit {w : World} {g : Nat} {a b c d : Value} {e : TypeId} (h : g = w.heap.size) : Box4 (w.alloc (.cells #[a, b, c, d] e)) g (a, b, c, d) := by
 subst h
 refine ⟨?_, ?_, ?_, ?_⟩ <;> rw [World.cell?_alloc_new] <;> rfl
theorem Box4.lt {w : World} {g : Nat} {x : V4} (h : Box4 w g x) : g < w.heap.size := cell_lt h.1
theorem tmT : ElemT Tryz.prog 41 43 4 56 := ElemT.mk' (z := .agg #[.int .i64 0, .int .i64 0, .string ByteArray.empty, .slice none 0 0]) Tryz.underlying41 (by kernel_rfl) rfl (by decide)
def inB (x a b : Int) : Bool := decide (a ≤ x) && decide (x ≤ b)
theorem spec_l01In (x a b : Int) (w : World) : Calls Tryz.prog 35 #[.int .i64 x, .int .i64 a, .int .i64 b] w fun e w' => e = .returned (.bool (inB x a b)) ∧ w = w' := by
 by_cases h : a ≤ x
 ·go_enter Tryz.func35, Tryz.ntmps35
  go_wp2
  go_ret
  exact ⟨ret_bool (by simp only [inB, h, decide_true, Bool.true_and]), rfl⟩
 ·have h' := decide_no h
  go_enter Tryz.func35, Tryz.ntmps35
  go_wp2
  go_ret
  exact ⟨ret_bool (by simp only [inB, h', Bool.false_and]), rfl⟩
theorem inB_yes {x a b : Int} (h : a ≤ x) (h' : x ≤ b) : inB x a b = true := by simp [inB, h, h']
theorem inB_no {x a b : Int} (h : x < a ∨ b < x) : inB x a b = false := by simp [inB]; omega
theorem inB_le {x a b : Int} (h : inB x a b = true) : a ≤ x ∧ x ≤ b := by simpa [inB] using h
end Go.Proofs.YtnmblfonmfjoeaaGreatDoor
