/-
  DERIVED. GIVEN WITH THE SEED: THE CARDS: each row of YtjhffhmokcogkaaGreatDoorRows.lean that lists a variable, with what it lists TIED to the program's text (the seventh form; the later family's looks); each row that meets fmt, with fmt's text TOLD by the authors' own Lean function (tested against real Go, not proved from fmt's source: count such statements apart). THE CARD IS WHAT COUNTS. Prove the row's statement (the work); the ties are given (YtjhffhmokcogkaaGreatDoorTie.lean); close each card by the builder's one call (the guide's Derived/Test/ToyasCard.lean, 'card_holds'). Laid BY PROGRAM, IN A SANDBOX (cutbox-door.mjs). By AI agents, Wed Nov 11 2026. No macro, syntax, notation, axiom, sorry.
-/
import Derived.Test.YtjhffhmokcogkaaGreatDoorRows
import GoSem.ClaimSeven
namespace Go.Proofs.YtjhffhmokcogkaaGreatDoor
namespace Rows

/-- THE TIED CARD OF 'pagodalaw20.TimesCongruent'. -/
def timesCongruentCard : Claim7 := { stood := { row := timesCongruentRow, standIns := [], harness := (true, "48f77a1d60d6dad6b69001a43086d6576c7b647b61920e322346647034d40804"), looks := false }, kinds := [], alts := [], laidByText := true, laidKinds := [.mapped, .data, .widerDeep], laidTests := true, laidLooks := .later }
def TimesCongruentCardSaid : Prop := Claim7.holds Tryz.pinned (.plain (OpenSpec.ofChange timesCongruentSpec)) timesCongruentCard

/-- THE TIED CARD OF 'pagodalaw20.TimesChecks'. -/
def timesChecksCard : Claim7 := { stood := { row := timesChecksRow, standIns := [], harness := (true, "48f77a1d60d6dad6b69001a43086d6576c7b647b61920e322346647034d40804"), looks := false }, kinds := [], alts := [], laidByText := true, laidKinds := [.mapped, .data, .widerDeep], laidTests := true, laidLooks := .later }
def TimesChecksCardSaid : Prop := Claim7.holds Tryz.pinned (.plain (OpenSpec.ofChange timesChecksSpec)) timesChecksCard

/-- THE TIED CARD OF 'pagodalaw20.TimesPlains'. -/
def timesPlainsCard : Claim7 := { stood := { row := timesPlainsRow, standIns := [], harness := (true, "48f77a1d60d6dad6b69001a43086d6576c7b647b61920e322346647034d40804"), looks := false }, kinds := [], alts := [], laidByText := true, laidKinds := [.mapped, .data, .widerDeep], laidTests := true, laidLooks := .later }
def TimesPlainsCardSaid : Prop := Claim7.holds Tryz.pinned (.plain (OpenSpec.ofChange timesPlainsSpec)) timesPlainsCard

/-- THE TIED CARD OF 'pagodalaw20.TimesFinds'. -/
def timesFindsCard : Claim7 := { stood := { row := timesFindsRow, standIns := [], harness := (true, "48f77a1d60d6dad6b69001a43086d6576c7b647b61920e322346647034d40804"), looks := false }, kinds := [], alts := [], laidByText := true, laidKinds := [.data, .data, .data, .mapped, .data, .widerDeep], laidTests := true, laidLooks := .later }
def TimesFindsCardSaid : Prop := Claim7.holds Tryz.pinned (.plain (OpenSpec.ofChange timesFindsSpec)) timesFindsCard

/-- THE TIED CARD OF 'pagodalaw20.TimesGiven'. -/
def timesGivenCard : Claim7 := { stood := { row := timesGivenRow, standIns := [], harness := (true, "48f77a1d60d6dad6b69001a43086d6576c7b647b61920e322346647034d40804"), looks := false }, kinds := [], alts := [], laidByText := true, laidKinds := [.data, .data, .data, .mapped, .data, .widerDeep], laidTests := true, laidLooks := .later }
def TimesGivenCardSaid : Prop := Claim7.holds Tryz.pinned (.plain (OpenSpec.ofChange timesGivenSpec)) timesGivenCard

/-- THE SECOND FORM's CARD OF 'pagodalaw20.TimesCongruent'. -/
def timesCongruentUptoCard : Claim7 := { stood := { row := timesCongruentUptoRow, standIns := [], harness := (true, "48f77a1d60d6dad6b69001a43086d6576c7b647b61920e322346647034d40804"), looks := false }, kinds := [], alts := [], laidByText := true, laidKinds := [.mapped, .data, .widerDeep], laidTests := true, laidLooks := .later }
def TimesCongruentUptoCardSaid : Prop := Claim7.holds Tryz.pinned (.plain (OpenSpec.upto timesCongruentSpec)) timesCongruentUptoCard

/-- THE SECOND FORM's CARD OF 'pagodalaw20.TimesChecks'. -/
def timesChecksUptoCard : Claim7 := { stood := { row := timesChecksUptoRow, standIns := [], harness := (true, "48f77a1d60d6dad6b69001a43086d6576c7b647b61920e322346647034d40804"), looks := false }, kinds := [], alts := [], laidByText := true, laidKinds := [.mapped, .data, .widerDeep], laidTests := true, laidLooks := .later }
def TimesChecksUptoCardSaid : Prop := Claim7.holds Tryz.pinned (.plain (OpenSpec.upto timesChecksSpec)) timesChecksUptoCard

/-- THE SECOND FORM's CARD OF 'pagodalaw20.TimesPlains'. -/
def timesPlainsUptoCard : Claim7 := { stood := { row := timesPlainsUptoRow, standIns := [], harness := (true, "48f77a1d60d6dad6b69001a43086d6576c7b647b61920e322346647034d40804"), looks := false }, kinds := [], alts := [], laidByText := true, laidKinds := [.mapped, .data, .widerDeep], laidTests := true, laidLooks := .later }
def TimesPlainsUptoCardSaid : Prop := Claim7.holds Tryz.pinned (.plain (OpenSpec.upto timesPlainsSpec)) timesPlainsUptoCard

/-- THE SECOND FORM's CARD OF 'pagodalaw20.TimesFinds'. -/
def timesFindsUptoCard : Claim7 := { stood := { row := timesFindsUptoRow, standIns := [], harness := (true, "48f77a1d60d6dad6b69001a43086d6576c7b647b61920e322346647034d40804"), looks := false }, kinds := [], alts := [], laidByText := true, laidKinds := [.data, .data, .data, .mapped, .data, .widerDeep], laidTests := true, laidLooks := .later }
def TimesFindsUptoCardSaid : Prop := Claim7.holds Tryz.pinned (.plain (OpenSpec.upto timesFindsSpec)) timesFindsUptoCard

/-- THE SECOND FORM's CARD OF 'pagodalaw20.TimesGiven'. -/
def timesGivenUptoCard : Claim7 := { stood := { row := timesGivenUptoRow, standIns := [], harness := (true, "48f77a1d60d6dad6b69001a43086d6576c7b647b61920e322346647034d40804"), looks := false }, kinds := [], alts := [], laidByText := true, laidKinds := [.data, .data, .data, .mapped, .data, .widerDeep], laidTests := true, laidLooks := .later }
def TimesGivenUptoCardSaid : Prop := Claim7.holds Tryz.pinned (.plain (OpenSpec.upto timesGivenSpec)) timesGivenUptoCard
end Rows
end Go.Proofs.YtjhffhmokcogkaaGreatDoor
