/- Lemmas for the row. -/
import Derived.Test.YtnmblfonmfjoeaaGreatDoorKc3
namespace Go.Proofs.YtnmblfonmfjoeaaGreatDoor
open Go.RowKit
set_option linter.unusedVariables false
def IsInts (w : World) (v : Value) (zs : List Int) : Prop := ∃ A c, v = .slice A zs.length c ∧ zs.length ≤ c ∧ c ≤ maxLen ∧ Rd w 1 A zs.length (zs.map (Value.int .i64))
theorem IsInts.below {w w' : World} {v : Value} {zs : List Int} (h : IsInts w v zs) (hb : Below w.heap.size w w') : IsInts w' v zs := by
 obtain ⟨A, c, e, h1, h2, h3⟩ := h
 exact ⟨A, c, e, h1, h2, h3.below hb⟩
theorem rd_int {w : World} {A : Option Addr} {zs : List Int} (rd : Rd w 1 A zs.length (zs.map (Value.int .i64))) {k : Nat} (hk : k < zs.length) : ∃ b off, A = some ⟨b, off, none⟩ ∧ w.cell? ⟨b, off + k, none⟩ = some (.int .i64 zs[k]) := by
 obtain ⟨b, off, e, hc⟩ := rd.2 (by omega)
 exact ⟨b, off, e, hc k _ (by simp [hk])⟩
def IsIntsF (lo : Nat) (w : World) (v : Value) (zs : List Int) : Prop := ∃ A c, v = .slice A zs.length c ∧ zs.length ≤ c ∧ c ≤ maxLen ∧ Rd w 1 A zs.length (zs.map (Value.int .i64)) ∧ ∀ b off, A = some ⟨b, off, none⟩ → 0 < zs.length → lo ≤ b
theorem IsIntsF.is {lo : Nat} {w : World} {v : Value} {zs : List Int} (h : IsIntsF lo w v zs) : IsInts w v zs := by
 obtain ⟨A, c, e, h1, h2, h3, _⟩ := h
 exact ⟨A, c, e, h1, h2, h3⟩
theorem IsIntsF.below {lo : Nat} {w w' : World} {v : Value} {zs : List Int} (h : IsIntsF lo w v zs) (hb : Below w.heap.size w w') : IsIntsF lo w' v zs := by
 obtain ⟨A, c, e, h1, h2, h3, h4⟩ := h
 exact ⟨A, c, e, h1, h2, h3.below hb, h4⟩
theorem IsIntsF.of_own {w0 w : World} {e : TypeId} {v : Value} {zs : List Int} {lo : Nat} (h : Own w0 w e 1 v zs.length (zs.map (Value.int .i64))) (hlo : lo ≤ w0.heap.size) : IsIntsF lo w v zs := by
 obtain ⟨A, c, rfl, hc⟩ := h.slice
 refine ⟨A, c, rfl, hc, own_cap' h, h.rd, fun b off hb hn => ?_⟩
 subst hb
 have := (h.1.lt b rfl).1
 omega
def IsIntss (w : World) (v : Value) (zss : List (List Int)) : Prop := IsRowsR 1 (fun cs zs => ∃ u, cs = [u] ∧ IsInts w u zs) w v zss
theorem IsIntss.below {w w' : World} {v : Value} {zss : List (List Int)} (h : IsIntss w v zss) (hb : Below w.heap.size w w') : IsIntss w' v zss := by
 obtain ⟨A, c, cs, e, h1, h2, rd, hx⟩ := h
 refine ⟨A, c, cs, e, h1, h2, rd.below hb, fun k hk => ?_⟩
 obtain ⟨u, e1, hu⟩ := hx k hk
 exact ⟨u, e1, hu.below hb⟩
theorem intT : ElemT Tryz.prog 29 3 1 8 := ElemT.mk' (z := .int .i64 0) Tryz.underlying29 (by kernel_rfl) rfl (by decide)
end Go.Proofs.YtnmblfonmfjoeaaGreatDoor
