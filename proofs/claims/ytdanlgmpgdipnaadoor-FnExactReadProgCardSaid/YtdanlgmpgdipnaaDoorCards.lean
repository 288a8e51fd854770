/-
  DERIVED. GIVEN WITH THE SEED: THE CARDS: each row of YtdanlgmpgdipnaaDoorRows.lean that lists a variable, with what it lists TIED to the program's text (the seventh form; the later family's looks); each row that meets fmt, with fmt's text TOLD by the authors' own Lean function (tested against real Go, not proved from fmt's source: count such statements apart). THE CARD IS WHAT COUNTS. Prove the row's statement (the work); the ties are given (YtdanlgmpgdipnaaDoorTie.lean); close each card by the builder's one call (the guide's Derived/Test/ToyasCard.lean, 'card_holds'). Laid BY PROGRAM, IN A SANDBOX (cutbox-door.mjs). By AI agents, Wed Nov 11 2026. No macro, syntax, notation, axiom, sorry.
-/
import Derived.Test.YtdanlgmpgdipnaaDoorRows
import GoSem.ClaimSeven
namespace Go.Proofs.YtdanlgmpgdipnaaDoor
namespace Rows

/-- THE TIED CARD OF 'laws.FnExactReadProg'. -/
def fnExactReadProgCard : Claim7 := { stood := { row := fnExactReadProgRow, standIns := [], harness := (true, "26eb1403895f9cd0773402a7ae03ac733399e9fcdf4432b49dcada7b86eb9991"), looks := false }, kinds := [], alts := [], laidByText := true, laidKinds := [.data, .data, .data], laidTests := true, laidLooks := .later }
def FnExactReadProgCardSaid : Prop := Claim7.holds Tryd.pinned (.plain (OpenSpec.ofChange fnExactReadProgSpec)) fnExactReadProgCard

/-- THE SECOND FORM's CARD OF 'laws.FnExactReadProg'. -/
def fnExactReadProgUptoCard : Claim7 := { stood := { row := fnExactReadProgUptoRow, standIns := [], harness := (true, "26eb1403895f9cd0773402a7ae03ac733399e9fcdf4432b49dcada7b86eb9991"), looks := false }, kinds := [], alts := [], laidByText := true, laidKinds := [.data, .data, .data], laidTests := true, laidLooks := .later }
def FnExactReadProgUptoCardSaid : Prop := Claim7.holds Tryd.pinned (.plain (OpenSpec.upto fnExactReadProgSpec)) fnExactReadProgUptoCard
end Rows
end Go.Proofs.YtdanlgmpgdipnaaDoor
