/- Lemmas for the row. -/
import Derived.Test.YtadcebdhgocmhaaKo8
import Derived.Test.YtadcebdhgocmhaaKo14
namespace Go.Proofs.Ytadcebdhgocmhaa
open Go.RowKit
set_option linter.unusedVariables false
theorem Own.setO {w0 w w0' : World} {e e' : TypeId} {sz sz' n n' g g' cap cap' : Nat} {xs xs' : List Value} (h : Own w0 w e sz (.slice (some ⟨g, 0, none⟩) n cap) n xs) (h' : Own w0' w e' sz' (.slice (some ⟨g', 0, none⟩) n' cap') n' xs') (hne : g ≠ g') (hg : w0.heap.size ≤ g') (j : Nat) (u : Value) :
    Own w0 (w.setCell ⟨g', j, none⟩ u) e sz (.slice (some ⟨g, 0, none⟩) n cap) n xs :=
  ⟨h.1.kept (h'.1.stored j u).2 (by simp [Value.ownBlock]; first | exact hne | exact fun e => hne e.symm | omega), h.2.setCell hg u⟩
def RdF (lo : Nat) (w : World) (sz : Nat) (A : Option Addr) (n : Nat) (xs : List Value) : Prop := Rd w sz A n xs ∧ ∀ b off, A = some ⟨b, off, none⟩ → 0 < n → lo ≤ b
theorem RdF.rd {lo : Nat} {w : World} {sz n : Nat} {A : Option Addr} {xs : List Value} (h : RdF lo w sz A n xs) : Rd w sz A n xs := h.1
theorem RdF.below {lo : Nat} {w w' : World} {sz n : Nat} {A : Option Addr} {xs : List Value} (h : RdF lo w sz A n xs) (hb : Below w.heap.size w w') : RdF lo w' sz A n xs := ⟨h.1.below hb, h.2⟩
theorem RdF.set {lo : Nat} {w : World} {sz n : Nat} {A : Option Addr} {xs : List Value} (h : RdF lo w sz A n xs) {p : Addr} (hp : p.block < lo) (u : Value) : RdF lo (w.setCell p u) sz A n xs :=
  ⟨⟨h.1.1, fun hn => by
    obtain ⟨b, off, e, hc⟩ := h.1.2 hn
    exact ⟨b, off, e, fun j v hv => by rw [World.cell?_setCell_other w p _ u (fun e2 => by subst e2; have := h.2 b off e hn; simp at hp; omega)]; exact hc j v hv⟩⟩, h.2⟩
theorem RdF.of_own {w0 w : World} {e : TypeId} {sz n c lo : Nat} {A : Option Addr} {xs : List Value} (h : Own w0 w e sz (.slice A n c) n xs) (hlo : lo ≤ w0.heap.size) : RdF lo w sz A n xs := by
  refine ⟨h.rd, fun b off e hn => ?_⟩
  subst e
  have := (h.1.lt b rfl).1
  omega
theorem inT : ElemT Try.prog 46 78 7 80 := ElemT.mk' (z := .agg #[.int .i64 0, .int .i64 0, .int .i64 0, .int .i64 0, .string ByteArray.empty, .slice none 0 0, .int .i64 0]) Try.underlying46 (by kernel_rfl) rfl (by decide)
end Go.Proofs.Ytadcebdhgocmhaa
