/- Several texts in one: Signs. -/
import Derived.Test.YtefcdpkficojgaaDoorKb39
import Derived.Test.YtefcdpkficojgaaDoorKb15
import Derived.Test.YtefcdpkficojgaaDoorKb2
namespace Go.Proofs.YtefcdpkficojgaaDoor
open Go.RowKit
set_option linter.unusedVariables false


/-- v is a slice that reads as signs -/
def IsSgs (w : World) (v : Value) (l : List Sg) : Prop := ∃ A c, v = .slice A l.length c ∧ l.length ≤ c ∧ c ≤ maxLen ∧ Rd w 3 A l.length (l.flatMap sgF)
theorem IsSgs.below {w w' : World} {v : Value} {l : List Sg} (h : IsSgs w v l) (hb : Below w.heap.size w w') : IsSgs w' v l := by
  obtain ⟨A, c, e, h1, h2, h3⟩ := h
  exact ⟨A, c, e, h1, h2, h3.below hb⟩
theorem OutS.is {w0 w : World} {v : Value} {l : List Sg} (h : OutS w0 w v l) : IsSgs w v l := by
  obtain ⟨A, c, rfl, hc⟩ := Own.slice h
  exact ⟨A, c, rfl, hc, own_cap h.1, Own.rd h⟩
theorem rd_sg {w : World} {A : Option Addr} {l : List Sg} (rd : Rd w 3 A l.length (l.flatMap sgF)) {k : Nat} (hk : k < l.length) :
    ∃ b off, A = some ⟨b, off, none⟩ ∧ w.cell? ⟨b, off + k * 3, none⟩ = some (.int .i64 l[k].k) ∧ w.cell? ⟨b, off + k * 3 + 1, none⟩ = some (.string l[k].t) ∧ w.cell? ⟨b, off + k * 3 + 2, none⟩ = some (.int .i64 (l[k].p : Int)) := by
  obtain ⟨b, off, e, hc⟩ := rd.2 (by omega)
  refine ⟨b, off, e, ?_, ?_, ?_⟩
  · have := hc (k * 3) _ ((flat_get sgF 3 sgF_len l k 0 hk (by omega)).trans rfl)
    exact this
  · have := hc (k * 3 + 1) _ ((flat_get sgF 3 sgF_len l k 1 hk (by omega)).trans rfl)
    rw [Nat.add_assoc]; exact this
  · have := hc (k * 3 + 2) _ ((flat_get sgF 3 sgF_len l k 2 hk (by omega)).trans rfl)
    rw [Nat.add_assoc]; exact this
end Go.Proofs.YtefcdpkficojgaaDoor
