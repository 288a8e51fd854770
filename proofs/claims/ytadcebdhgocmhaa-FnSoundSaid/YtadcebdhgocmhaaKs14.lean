/- Several texts in one: StmtTo. -/
import Derived.Test.YtadcebdhgocmhaaKs13
namespace Go.Proofs.Ytadcebdhgocmhaa
open Go.RowKit
set_option linter.unusedVariables false


def z8 : V8 := ⟨0, ByteArray.empty, 0, 0, ByteArray.empty, none, 0, 0, none, 0, 0, none, 0, 0⟩
/-- a world in which the eight cells of a statement have been written -/
def put8 (w : World) (g o : Nat) (x : V8) : World := (((((((w.setCell ⟨g, o, none⟩ (Value.int .i64 x.k)).setCell ⟨g, o + 1, none⟩ (Value.string x.s)).setCell ⟨g, o + 2, none⟩ (Value.int .i64 x.tk)).setCell ⟨g, o + 3, none⟩ (Value.int .i64 x.tn)).setCell ⟨g, o + 4, none⟩ (Value.string x.ts)).setCell ⟨g, o + 5, none⟩ (Value.slice x.tA x.tm x.tc)).setCell ⟨g, o + 6, none⟩ (Value.slice x.bA x.bm x.bc)).setCell ⟨g, o + 7, none⟩ (Value.slice x.eA x.em x.ec)
theorem Own.put8 {w0 w : World} {e : TypeId} {g n cap : Nat} {xs : List Value} (h : Own w0 w e 8 (.slice (some ⟨g, 0, none⟩) n cap) n xs) (o : Nat) (x : V8) : Own w0 (put8 w g o x) e 8 (.slice (some ⟨g, 0, none⟩) n cap) n (sets xs o x.cells) :=
  (((((((h.set o (Value.int .i64 x.k)).set (o + 1) (Value.string x.s)).set (o + 2) (Value.int .i64 x.tk)).set (o + 3) (Value.int .i64 x.tn)).set (o + 4) (Value.string x.ts)).set (o + 5) (Value.slice x.tA x.tm x.tc)).set (o + 6) (Value.slice x.bA x.bm x.bc)).set (o + 7) (Value.slice x.eA x.em x.ec)
theorem put8_size (w : World) (g o : Nat) (x : V8) : (put8 w g o x).heap.size = w.heap.size := by simp [put8]
theorem sgT : ElemT Try.prog 29 36 8 128 := ElemT.mk' (z := .agg #[.int .i64 0, .string ByteArray.empty, .int .i64 0, .int .i64 0, .string ByteArray.empty, .slice none 0 0, .slice none 0 0, .slice none 0 0]) Try.underlying29 (by kernel_rfl) rfl (by decide)
end Go.Proofs.Ytadcebdhgocmhaa
