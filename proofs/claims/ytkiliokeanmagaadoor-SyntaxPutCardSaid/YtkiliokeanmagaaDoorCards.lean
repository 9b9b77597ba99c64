/-
  DERIVED. GIVEN WITH THE SEED: THE CARDS: each row of YtkiliokeanmagaaDoorRows.lean that lists a variable, with what it lists TIED to the program's text (the seventh form; the later family's looks); each row that meets fmt, with fmt's text TOLD by the authors' own Lean function (tested against real Go, not proved from fmt's source: count such statements apart). THE CARD IS WHAT COUNTS. Prove the row's statement (the work); the ties are given (YtkiliokeanmagaaDoorTie.lean); close each card by the builder's one call (the guide's Derived/Test/ToyasCard.lean, 'card_holds'). Laid BY PROGRAM, IN A SANDBOX (cutbox-door.mjs). By AI agents, Wed Nov 11 2026. No macro, syntax, notation, axiom, sorry.
-/
import Derived.Test.YtkiliokeanmagaaDoorRows
import GoSem.ClaimSeven
namespace Go.Proofs.YtkiliokeanmagaaDoor
namespace Rows

/-- THE TIED CARD OF 'pagodalaw04.SyntaxChecks'. -/
def syntaxChecksCard : Claim7 := { stood := { row := syntaxChecksRow, standIns := [], harness := (true, "8ccad16c6e417e3cd4dc0213b5b27223fa57546759a13c087f9ad22ecc3916b7"), looks := false }, kinds := [], alts := [], laidByText := true, laidKinds := [.mapped], laidTests := true, laidLooks := .later }
def SyntaxChecksCardSaid : Prop := Claim7.holds Tryd.pinned (.plain (OpenSpec.ofChange syntaxChecksSpec)) syntaxChecksCard

/-- THE TIED CARD OF 'pagodalaw04.SyntaxNames'. -/
def syntaxNamesCard : Claim7 := { stood := { row := syntaxNamesRow, standIns := [], harness := (true, "8ccad16c6e417e3cd4dc0213b5b27223fa57546759a13c087f9ad22ecc3916b7"), looks := false }, kinds := [], alts := [], laidByText := true, laidKinds := [.mapped], laidTests := true, laidLooks := .later }
def SyntaxNamesCardSaid : Prop := Claim7.holds Tryd.pinned (.plain (OpenSpec.ofChange syntaxNamesSpec)) syntaxNamesCard

/-- THE TIED CARD OF 'pagodalaw04.SyntaxPut'. -/
def syntaxPutCard : Claim7 := { stood := { row := syntaxPutRow, standIns := [], harness := (true, "8ccad16c6e417e3cd4dc0213b5b27223fa57546759a13c087f9ad22ecc3916b7"), looks := false }, kinds := [], alts := [], laidByText := true, laidKinds := [.mapped], laidTests := true, laidLooks := .later }
def SyntaxPutCardSaid : Prop := Claim7.holds Tryd.pinned (.plain (OpenSpec.ofChange syntaxPutSpec)) syntaxPutCard

/-- THE TIED CARD OF 'pagodalaw04.SyntaxWeighs'. -/
def syntaxWeighsCard : Claim7 := { stood := { row := syntaxWeighsRow, standIns := [], harness := (true, "8ccad16c6e417e3cd4dc0213b5b27223fa57546759a13c087f9ad22ecc3916b7"), looks := false }, kinds := [], alts := [], laidByText := true, laidKinds := [.mapped], laidTests := true, laidLooks := .later }
def SyntaxWeighsCardSaid : Prop := Claim7.holds Tryd.pinned (.plain (OpenSpec.ofChange syntaxWeighsSpec)) syntaxWeighsCard

/-- THE TIED CARD OF 'pagodalaw04.SyntaxParts'. -/
def syntaxPartsCard : Claim7 := { stood := { row := syntaxPartsRow, standIns := [], harness := (true, "8ccad16c6e417e3cd4dc0213b5b27223fa57546759a13c087f9ad22ecc3916b7"), looks := false }, kinds := [], alts := [], laidByText := true, laidKinds := [.mapped], laidTests := true, laidLooks := .later }
def SyntaxPartsCardSaid : Prop := Claim7.holds Tryd.pinned (.plain (OpenSpec.ofChange syntaxPartsSpec)) syntaxPartsCard

/-- THE TIED CARD OF 'pagodalaw04.SyntaxForms'. -/
def syntaxFormsCard : Claim7 := { stood := { row := syntaxFormsRow, standIns := [], harness := (true, "8ccad16c6e417e3cd4dc0213b5b27223fa57546759a13c087f9ad22ecc3916b7"), looks := false }, kinds := [], alts := [], laidByText := true, laidKinds := [.mapped], laidTests := true, laidLooks := .later }
def SyntaxFormsCardSaid : Prop := Claim7.holds Tryd.pinned (.plain (OpenSpec.ofChange syntaxFormsSpec)) syntaxFormsCard

/-- THE SECOND FORM's CARD OF 'pagodalaw04.SyntaxChecks'. -/
def syntaxChecksUptoCard : Claim7 := { stood := { row := syntaxChecksUptoRow, standIns := [], harness := (true, "8ccad16c6e417e3cd4dc0213b5b27223fa57546759a13c087f9ad22ecc3916b7"), looks := false }, kinds := [], alts := [], laidByText := true, laidKinds := [.mapped], laidTests := true, laidLooks := .later }
def SyntaxChecksUptoCardSaid : Prop := Claim7.holds Tryd.pinned (.plain (OpenSpec.upto syntaxChecksSpec)) syntaxChecksUptoCard

/-- THE SECOND FORM's CARD OF 'pagodalaw04.SyntaxNames'. -/
def syntaxNamesUptoCard : Claim7 := { stood := { row := syntaxNamesUptoRow, standIns := [], harness := (true, "8ccad16c6e417e3cd4dc0213b5b27223fa57546759a13c087f9ad22ecc3916b7"), looks := false }, kinds := [], alts := [], laidByText := true, laidKinds := [.mapped], laidTests := true, laidLooks := .later }
def SyntaxNamesUptoCardSaid : Prop := Claim7.holds Tryd.pinned (.plain (OpenSpec.upto syntaxNamesSpec)) syntaxNamesUptoCard

/-- THE SECOND FORM's CARD OF 'pagodalaw04.SyntaxPut'. -/
def syntaxPutUptoCard : Claim7 := { stood := { row := syntaxPutUptoRow, standIns := [], harness := (true, "8ccad16c6e417e3cd4dc0213b5b27223fa57546759a13c087f9ad22ecc3916b7"), looks := false }, kinds := [], alts := [], laidByText := true, laidKinds := [.mapped], laidTests := true, laidLooks := .later }
def SyntaxPutUptoCardSaid : Prop := Claim7.holds Tryd.pinned (.plain (OpenSpec.upto syntaxPutSpec)) syntaxPutUptoCard

/-- THE SECOND FORM's CARD OF 'pagodalaw04.SyntaxWeighs'. -/
def syntaxWeighsUptoCard : Claim7 := { stood := { row := syntaxWeighsUptoRow, standIns := [], harness := (true, "8ccad16c6e417e3cd4dc0213b5b27223fa57546759a13c087f9ad22ecc3916b7"), looks := false }, kinds := [], alts := [], laidByText := true, laidKinds := [.mapped], laidTests := true, laidLooks := .later }
def SyntaxWeighsUptoCardSaid : Prop := Claim7.holds Tryd.pinned (.plain (OpenSpec.upto syntaxWeighsSpec)) syntaxWeighsUptoCard

/-- THE SECOND FORM's CARD OF 'pagodalaw04.SyntaxParts'. -/
def syntaxPartsUptoCard : Claim7 := { stood := { row := syntaxPartsUptoRow, standIns := [], harness := (true, "8ccad16c6e417e3cd4dc0213b5b27223fa57546759a13c087f9ad22ecc3916b7"), looks := false }, kinds := [], alts := [], laidByText := true, laidKinds := [.mapped], laidTests := true, laidLooks := .later }
def SyntaxPartsUptoCardSaid : Prop := Claim7.holds Tryd.pinned (.plain (OpenSpec.upto syntaxPartsSpec)) syntaxPartsUptoCard

/-- THE SECOND FORM's CARD OF 'pagodalaw04.SyntaxForms'. -/
def syntaxFormsUptoCard : Claim7 := { stood := { row := syntaxFormsUptoRow, standIns := [], harness := (true, "8ccad16c6e417e3cd4dc0213b5b27223fa57546759a13c087f9ad22ecc3916b7"), looks := false }, kinds := [], alts := [], laidByText := true, laidKinds := [.mapped], laidTests := true, laidLooks := .later }
def SyntaxFormsUptoCardSaid : Prop := Claim7.holds Tryd.pinned (.plain (OpenSpec.upto syntaxFormsSpec)) syntaxFormsUptoCard
end Rows
end Go.Proofs.YtkiliokeanmagaaDoor
