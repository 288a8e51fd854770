/-
  DERIVED. GIVEN WITH THE SEED: THE CARDS: each row of YtbbmoinaakbnbaaDoorRows.lean that lists a variable, with what it lists TIED to the program's text (the seventh form; the later family's looks); each row that meets fmt, with fmt's text TOLD by the authors' own Lean function (tested against real Go, not proved from fmt's source: count such statements apart). THE CARD IS WHAT COUNTS. Prove the row's statement (the work); the ties are given (YtbbmoinaakbnbaaDoorTie.lean); close each card by the builder's one call (the guide's Derived/Test/ToyasCard.lean, 'card_holds'). Laid BY PROGRAM, IN A SANDBOX (cutbox-door.mjs). By AI agents, Wed Nov 11 2026. No macro, syntax, notation, axiom, sorry.
-/
import Derived.Test.YtbbmoinaakbnbaaDoorRows
import GoSem.ClaimSeven
namespace Go.Proofs.YtbbmoinaakbnbaaDoor
namespace Rows

/-- THE TIED CARD OF 'laws.FnExactTermText'. -/
def fnExactTermTextCard : Claim7 := { stood := { row := fnExactTermTextRow, standIns := [], harness := (true, "9410c8ef68d36a3d8e804b14326266bd3e74a1298840f25642fb0198e8a85d65"), looks := false }, kinds := [], alts := [], laidByText := true, laidKinds := [.data, .data, .data], laidTests := true, laidLooks := .later }
def FnExactTermTextCardSaid : Prop := Claim7.holds Tryd.pinned (.plain (OpenSpec.ofChange fnExactTermTextSpec)) fnExactTermTextCard

/-- THE TIED CARD OF 'laws.FnExactLex'. -/
def fnExactLexCard : Claim7 := { stood := { row := fnExactLexRow, standIns := [], harness := (true, "9410c8ef68d36a3d8e804b14326266bd3e74a1298840f25642fb0198e8a85d65"), looks := false }, kinds := [], alts := [], laidByText := true, laidKinds := [.data, .data, .data], laidTests := true, laidLooks := .later }
def FnExactLexCardSaid : Prop := Claim7.holds Tryd.pinned (.plain (OpenSpec.ofChange fnExactLexSpec)) fnExactLexCard

/-- THE TIED CARD OF 'laws.FnSigns'. -/
def fnSignsCard : Claim7 := { stood := { row := fnSignsRow, standIns := [], harness := (true, "9410c8ef68d36a3d8e804b14326266bd3e74a1298840f25642fb0198e8a85d65"), looks := false }, kinds := [], alts := [], laidByText := true, laidKinds := [.data, .data, .data], laidTests := true, laidLooks := .later }
def FnSignsCardSaid : Prop := Claim7.holds Tryd.pinned (.plain (OpenSpec.ofChange fnSignsSpec)) fnSignsCard

/-- THE SECOND FORM's CARD OF 'laws.FnExactTermText'. -/
def fnExactTermTextUptoCard : Claim7 := { stood := { row := fnExactTermTextUptoRow, standIns := [], harness := (true, "9410c8ef68d36a3d8e804b14326266bd3e74a1298840f25642fb0198e8a85d65"), looks := false }, kinds := [], alts := [], laidByText := true, laidKinds := [.data, .data, .data], laidTests := true, laidLooks := .later }
def FnExactTermTextUptoCardSaid : Prop := Claim7.holds Tryd.pinned (.plain (OpenSpec.upto fnExactTermTextSpec)) fnExactTermTextUptoCard

/-- THE SECOND FORM's CARD OF 'laws.FnExactLex'. -/
def fnExactLexUptoCard : Claim7 := { stood := { row := fnExactLexUptoRow, standIns := [], harness := (true, "9410c8ef68d36a3d8e804b14326266bd3e74a1298840f25642fb0198e8a85d65"), looks := false }, kinds := [], alts := [], laidByText := true, laidKinds := [.data, .data, .data], laidTests := true, laidLooks := .later }
def FnExactLexUptoCardSaid : Prop := Claim7.holds Tryd.pinned (.plain (OpenSpec.upto fnExactLexSpec)) fnExactLexUptoCard

/-- THE SECOND FORM's CARD OF 'laws.FnSigns'. -/
def fnSignsUptoCard : Claim7 := { stood := { row := fnSignsUptoRow, standIns := [], harness := (true, "9410c8ef68d36a3d8e804b14326266bd3e74a1298840f25642fb0198e8a85d65"), looks := false }, kinds := [], alts := [], laidByText := true, laidKinds := [.data, .data, .data], laidTests := true, laidLooks := .later }
def FnSignsUptoCardSaid : Prop := Claim7.holds Tryd.pinned (.plain (OpenSpec.upto fnSignsSpec)) fnSignsUptoCard
end Rows
end Go.Proofs.YtbbmoinaakbnbaaDoor
