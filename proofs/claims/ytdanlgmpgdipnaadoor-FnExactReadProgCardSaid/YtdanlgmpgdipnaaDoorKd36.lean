/- Several texts in one: StOk, StTxt. -/
import Derived.Test.YtdanlgmpgdipnaaDoorKd32
import Derived.Test.YtdanlgmpgdipnaaDoorKd35
import Derived.Test.YtdanlgmpgdipnaaDoorKd9
namespace Go.Proofs.YtdanlgmpgdipnaaDoor
open Go.RowKit
set_option linter.unusedVariables false



def wdB (k : Int) : ByteArray := if k = 2 then ⟨#[105, 102]⟩ else if k = 3 then ⟨#[119, 104, 105, 108, 101]⟩ else if k = 4 then ⟨#[99, 97, 108, 108]⟩ else if k = 5 then ⟨#[115, 112, 97, 119, 110]⟩ else if k = 6 then ⟨#[108, 111, 99, 107]⟩ else if k = 7 then ⟨#[117, 110, 108, 111, 99, 107]⟩ else ⟨#[115, 107, 105, 112]⟩
end Go.Proofs.YtdanlgmpgdipnaaDoor
