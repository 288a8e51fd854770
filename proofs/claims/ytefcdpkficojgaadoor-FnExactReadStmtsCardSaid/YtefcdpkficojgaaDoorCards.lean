/-
  DERIVED. GIVEN WITH THE SEED: THE CARDS: each row of YtefcdpkficojgaaDoorRows.lean that lists a variable, with what it lists TIED to the program's text (the seventh form; the later family's looks); each row that meets fmt, with fmt's text TOLD by the authors' own Lean function (tested against real Go, not proved from fmt's source: count such statements apart). THE CARD IS WHAT COUNTS. Prove the row's statement (the work); the ties are given (YtefcdpkficojgaaDoorTie.lean); close each card by the builder's one call (the guide's Derived/Test/ToyasCard.lean, 'card_holds'). Laid BY PROGRAM, IN A SANDBOX (cutbox-door.mjs). By AI agents, Wed Nov 11 2026. No macro, syntax, notation, axiom, sorry.
-/
import Derived.Test.YtefcdpkficojgaaDoorRows
import GoSem.ClaimSeven
namespace Go.Proofs.YtefcdpkficojgaaDoor
namespace Rows

/-- THE TIED CARD OF 'laws.FnExactReadTerm'. -/
def fnExactReadTermCard : Claim7 := { stood := { row := fnExactReadTermRow, standIns := [], harness := (true, "c4659e33801f66dfea4fa513ec27dc0ea7184391a17f2d145b9d5e94fd4064fa"), looks := false }, kinds := [], alts := [], laidByText := true, laidKinds := [.data, .data, .data], laidTests := true, laidLooks := .later }
def FnExactReadTermCardSaid : Prop := Claim7.holds Tryd.pinned (.plain (OpenSpec.ofChange fnExactReadTermSpec)) fnExactReadTermCard

/-- THE TIED CARD OF 'laws.FnExactStmtsText'. -/
def fnExactStmtsTextCard : Claim7 := { stood := { row := fnExactStmtsTextRow, standIns := [], harness := (true, "c4659e33801f66dfea4fa513ec27dc0ea7184391a17f2d145b9d5e94fd4064fa"), looks := false }, kinds := [], alts := [], laidByText := true, laidKinds := [.data, .data, .data], laidTests := true, laidLooks := .later }
def FnExactStmtsTextCardSaid : Prop := Claim7.holds Tryd.pinned (.plain (OpenSpec.ofChange fnExactStmtsTextSpec)) fnExactStmtsTextCard

/-- THE TIED CARD OF 'laws.FnStmts'. -/
def fnStmtsCard : Claim7 := { stood := { row := fnStmtsRow, standIns := [], harness := (true, "c4659e33801f66dfea4fa513ec27dc0ea7184391a17f2d145b9d5e94fd4064fa"), looks := false }, kinds := [], alts := [], laidByText := true, laidKinds := [.data, .data, .data], laidTests := true, laidLooks := .later }
def FnStmtsCardSaid : Prop := Claim7.holds Tryd.pinned (.plain (OpenSpec.ofChange fnStmtsSpec)) fnStmtsCard

/-- THE TIED CARD OF 'laws.FnExactReadStmts'. -/
def fnExactReadStmtsCard : Claim7 := { stood := { row := fnExactReadStmtsRow, standIns := [], harness := (true, "c4659e33801f66dfea4fa513ec27dc0ea7184391a17f2d145b9d5e94fd4064fa"), looks := false }, kinds := [], alts := [], laidByText := true, laidKinds := [.data, .data, .data], laidTests := true, laidLooks := .later }
def FnExactReadStmtsCardSaid : Prop := Claim7.holds Tryd.pinned (.plain (OpenSpec.ofChange fnExactReadStmtsSpec)) fnExactReadStmtsCard

/-- THE TIED CARD OF 'laws.FnExactInsLine'. -/
def fnExactInsLineCard : Claim7 := { stood := { row := fnExactInsLineRow, standIns := [], harness := (true, "c4659e33801f66dfea4fa513ec27dc0ea7184391a17f2d145b9d5e94fd4064fa"), looks := false }, kinds := [], alts := [], laidByText := true, laidKinds := [.data, .data, .data], laidTests := true, laidLooks := .later }
def FnExactInsLineCardSaid : Prop := Claim7.holds Tryd.pinned (.plain (OpenSpec.ofChange fnExactInsLineSpec)) fnExactInsLineCard

/-- THE TIED CARD OF 'laws.FnTermsRead'. -/
def fnTermsReadCard : Claim7 := { stood := { row := fnTermsReadRow, standIns := [], harness := (true, "c4659e33801f66dfea4fa513ec27dc0ea7184391a17f2d145b9d5e94fd4064fa"), looks := false }, kinds := [], alts := [], laidByText := true, laidKinds := [.data, .data, .data], laidTests := true, laidLooks := .later }
def FnTermsReadCardSaid : Prop := Claim7.holds Tryd.pinned (.plain (OpenSpec.ofChange fnTermsReadSpec)) fnTermsReadCard

/-- THE TIED CARD OF 'laws.FnExactProgText'. -/
def fnExactProgTextCard : Claim7 := { stood := { row := fnExactProgTextRow, standIns := [], harness := (true, "c4659e33801f66dfea4fa513ec27dc0ea7184391a17f2d145b9d5e94fd4064fa"), looks := false }, kinds := [], alts := [], laidByText := true, laidKinds := [.data, .data, .data], laidTests := true, laidLooks := .later }
def FnExactProgTextCardSaid : Prop := Claim7.holds Tryd.pinned (.plain (OpenSpec.ofChange fnExactProgTextSpec)) fnExactProgTextCard

/-- THE TIED CARD OF 'laws.FnExactReadProg'. -/
def fnExactReadProgCard : Claim7 := { stood := { row := fnExactReadProgRow, standIns := [], harness := (true, "c4659e33801f66dfea4fa513ec27dc0ea7184391a17f2d145b9d5e94fd4064fa"), looks := false }, kinds := [], alts := [], laidByText := true, laidKinds := [.data, .data, .data], laidTests := true, laidLooks := .later }
def FnExactReadProgCardSaid : Prop := Claim7.holds Tryd.pinned (.plain (OpenSpec.ofChange fnExactReadProgSpec)) fnExactReadProgCard

/-- THE SECOND FORM's CARD OF 'laws.FnExactReadTerm'. -/
def fnExactReadTermUptoCard : Claim7 := { stood := { row := fnExactReadTermUptoRow, standIns := [], harness := (true, "c4659e33801f66dfea4fa513ec27dc0ea7184391a17f2d145b9d5e94fd4064fa"), looks := false }, kinds := [], alts := [], laidByText := true, laidKinds := [.data, .data, .data], laidTests := true, laidLooks := .later }
def FnExactReadTermUptoCardSaid : Prop := Claim7.holds Tryd.pinned (.plain (OpenSpec.upto fnExactReadTermSpec)) fnExactReadTermUptoCard

/-- THE SECOND FORM's CARD OF 'laws.FnExactStmtsText'. -/
def fnExactStmtsTextUptoCard : Claim7 := { stood := { row := fnExactStmtsTextUptoRow, standIns := [], harness := (true, "c4659e33801f66dfea4fa513ec27dc0ea7184391a17f2d145b9d5e94fd4064fa"), looks := false }, kinds := [], alts := [], laidByText := true, laidKinds := [.data, .data, .data], laidTests := true, laidLooks := .later }
def FnExactStmtsTextUptoCardSaid : Prop := Claim7.holds Tryd.pinned (.plain (OpenSpec.upto fnExactStmtsTextSpec)) fnExactStmtsTextUptoCard

/-- THE SECOND FORM's CARD OF 'laws.FnStmts'. -/
def fnStmtsUptoCard : Claim7 := { stood := { row := fnStmtsUptoRow, standIns := [], harness := (true, "c4659e33801f66dfea4fa513ec27dc0ea7184391a17f2d145b9d5e94fd4064fa"), looks := false }, kinds := [], alts := [], laidByText := true, laidKinds := [.data, .data, .data], laidTests := true, laidLooks := .later }
def FnStmtsUptoCardSaid : Prop := Claim7.holds Tryd.pinned (.plain (OpenSpec.upto fnStmtsSpec)) fnStmtsUptoCard

/-- THE SECOND FORM's CARD OF 'laws.FnExactReadStmts'. -/
def fnExactReadStmtsUptoCard : Claim7 := { stood := { row := fnExactReadStmtsUptoRow, standIns := [], harness := (true, "c4659e33801f66dfea4fa513ec27dc0ea7184391a17f2d145b9d5e94fd4064fa"), looks := false }, kinds := [], alts := [], laidByText := true, laidKinds := [.data, .data, .data], laidTests := true, laidLooks := .later }
def FnExactReadStmtsUptoCardSaid : Prop := Claim7.holds Tryd.pinned (.plain (OpenSpec.upto fnExactReadStmtsSpec)) fnExactReadStmtsUptoCard

/-- THE SECOND FORM's CARD OF 'laws.FnExactInsLine'. -/
def fnExactInsLineUptoCard : Claim7 := { stood := { row := fnExactInsLineUptoRow, standIns := [], harness := (true, "c4659e33801f66dfea4fa513ec27dc0ea7184391a17f2d145b9d5e94fd4064fa"), looks := false }, kinds := [], alts := [], laidByText := true, laidKinds := [.data, .data, .data], laidTests := true, laidLooks := .later }
def FnExactInsLineUptoCardSaid : Prop := Claim7.holds Tryd.pinned (.plain (OpenSpec.upto fnExactInsLineSpec)) fnExactInsLineUptoCard

/-- THE SECOND FORM's CARD OF 'laws.FnTermsRead'. -/
def fnTermsReadUptoCard : Claim7 := { stood := { row := fnTermsReadUptoRow, standIns := [], harness := (true, "c4659e33801f66dfea4fa513ec27dc0ea7184391a17f2d145b9d5e94fd4064fa"), looks := false }, kinds := [], alts := [], laidByText := true, laidKinds := [.data, .data, .data], laidTests := true, laidLooks := .later }
def FnTermsReadUptoCardSaid : Prop := Claim7.holds Tryd.pinned (.plain (OpenSpec.upto fnTermsReadSpec)) fnTermsReadUptoCard

/-- THE SECOND FORM's CARD OF 'laws.FnExactProgText'. -/
def fnExactProgTextUptoCard : Claim7 := { stood := { row := fnExactProgTextUptoRow, standIns := [], harness := (true, "c4659e33801f66dfea4fa513ec27dc0ea7184391a17f2d145b9d5e94fd4064fa"), looks := false }, kinds := [], alts := [], laidByText := true, laidKinds := [.data, .data, .data], laidTests := true, laidLooks := .later }
def FnExactProgTextUptoCardSaid : Prop := Claim7.holds Tryd.pinned (.plain (OpenSpec.upto fnExactProgTextSpec)) fnExactProgTextUptoCard

/-- THE SECOND FORM's CARD OF 'laws.FnExactReadProg'. -/
def fnExactReadProgUptoCard : Claim7 := { stood := { row := fnExactReadProgUptoRow, standIns := [], harness := (true, "c4659e33801f66dfea4fa513ec27dc0ea7184391a17f2d145b9d5e94fd4064fa"), looks := false }, kinds := [], alts := [], laidByText := true, laidKinds := [.data, .data, .data], laidTests := true, laidLooks := .later }
def FnExactReadProgUptoCardSaid : Prop := Claim7.holds Tryd.pinned (.plain (OpenSpec.upto fnExactReadProgSpec)) fnExactReadProgUptoCard
end Rows
end Go.Proofs.YtefcdpkficojgaaDoor
