/- Several texts in one: Ints. -/
import Derived.Test.YtadcebdhgocmhaaKs5
import Derived.Test.YtadcebdhgocmhaaKs4
namespace Go.Proofs.Ytadcebdhgocmhaa
open Go.RowKit
set_option linter.unusedVariables false


def IsInts (w : World) (v : Value) (zs : List Int) : Prop := ∃ A c, v = .slice A zs.length c ∧ zs.length ≤ c ∧ c ≤ maxLen ∧ Rd w 1 A zs.length (zs.map (Value.int .i64))
theorem IsInts.below {w w' : World} {v : Value} {zs : List Int} (h : IsInts w v zs) (hb : Below w.heap.size w w') : IsInts w' v zs := by
  obtain ⟨A, c, e, h1, h2, h3⟩ := h
  exact ⟨A, c, e, h1, h2, h3.below hb⟩
/-- the same, its row made since block lo -/
def IsIntsF (lo : Nat) (w : World) (v : Value) (zs : List Int) : Prop := ∃ A c, v = .slice A zs.length c ∧ zs.length ≤ c ∧ c ≤ maxLen ∧ Rd w 1 A zs.length (zs.map (Value.int .i64)) ∧ ∀ b off, A = some ⟨b, off, none⟩ → 0 < zs.length → lo ≤ b
theorem IsIntsF.is {lo : Nat} {w : World} {v : Value} {zs : List Int} (h : IsIntsF lo w v zs) : IsInts w v zs := by
  obtain ⟨A, c, e, h1, h2, h3, _⟩ := h
  exact ⟨A, c, e, h1, h2, h3⟩
theorem IsIntsF.below {lo : Nat} {w w' : World} {v : Value} {zs : List Int} (h : IsIntsF lo w v zs) (hb : Below w.heap.size w w') : IsIntsF lo w' v zs := by
  obtain ⟨A, c, e, h1, h2, h3, h4⟩ := h
  exact ⟨A, c, e, h1, h2, h3.below hb, h4⟩
theorem IsIntsF.of_own {w0 w : World} {e : TypeId} {v : Value} {zs : List Int} {lo : Nat} (h : Own w0 w e 1 v zs.length (zs.map (Value.int .i64))) (hlo : lo ≤ w0.heap.size) : IsIntsF lo w v zs := by
  obtain ⟨A, c, rfl, hc⟩ := h.slice
  refine ⟨A, c, rfl, hc, own_cap' h, h.rd, fun b off hb hn => ?_⟩
  subst hb
  have := (h.1.lt b rfl).1
  omega
def IsIntss (w : World) (v : Value) (zss : List (List Int)) : Prop := IsRowsR 1 (fun cs zs => ∃ u, cs = [u] ∧ IsInts w u zs) w v zss
theorem IsIntss.below {w w' : World} {v : Value} {zss : List (List Int)} (h : IsIntss w v zss) (hb : Below w.heap.size w w') : IsIntss w' v zss := by
  obtain ⟨A, c, cs, e, h1, h2, rd, hx⟩ := h
  refine ⟨A, c, cs, e, h1, h2, rd.below hb, fun k hk => ?_⟩
  obtain ⟨u, e1, hu⟩ := hx k hk
  exact ⟨u, e1, hu.below hb⟩
end Go.Proofs.Ytadcebdhgocmhaa
