/- Several texts in one: Work, Txt, DecFacts. -/
import Derived.Test.YtefcdpkficojgaaDoorKc8
import Derived.Test.YtefcdpkficojgaaDoorKc9
import Derived.Test.YtefcdpkficojgaaDoorKc2
namespace Go.Proofs.YtefcdpkficojgaaDoor
open Go.RowKit
set_option linter.unusedVariables false



def signB (k : Int) : ByteArray := if k = 3 then ⟨#[43]⟩ else if k = 4 then ⟨#[45]⟩ else if k = 5 then ⟨#[42]⟩ else if k = 6 then ⟨#[60]⟩ else if k = 7 then ⟨#[61, 61]⟩ else ⟨#[97, 110, 100]⟩
theorem name_len {l : List UInt8} (h : isNameL l = true) : l.length ≤ 12 := by
  rcases Nat.lt_or_ge 12 l.length with h1 | h1
  · have := not_name _ (word_long l h1)
    rw [this] at h; cases h
  · exact h1

end Go.Proofs.YtefcdpkficojgaaDoor
