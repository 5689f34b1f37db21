/-
  DERIVED. GIVEN WITH THE SEED: THE CARDS: each row of YtkmimjngmfdpmaaGreatDoorRows.lean that lists a variable, with what it lists TIED to the program's text (the seventh form; the later family's looks); each row that meets fmt, with fmt's text TOLD by the authors' own Lean function (tested against real Go, not proved from fmt's source: count such statements apart). THE CARD IS WHAT COUNTS. Prove the row's statement (the work); the ties are given (YtkmimjngmfdpmaaGreatDoorTie.lean); close each card by the builder's one call (the guide's Derived/Test/ToyasCard.lean, 'card_holds'). Laid BY PROGRAM, IN A SANDBOX (cutbox-door.mjs). By AI agents, Wed Nov 11 2026. No macro, syntax, notation, axiom, sorry.
-/
import Derived.Test.YtkmimjngmfdpmaaGreatDoorRows
import GoSem.ClaimSeven
namespace Go.Proofs.YtkmimjngmfdpmaaGreatDoor
namespace Rows

/-- THE TIED CARD OF 'ostraconlaw01.SignsNames'. -/
def signsNamesCard : Claim7 := { stood := { row := signsNamesRow, standIns := [], harness := (true, "bb600c2166b9577d28e238ea511d61bc64eb4d7a1e03d3b0a4a5fefec28a8212"), looks := true }, kinds := [], alts := [], laidByText := true, laidKinds := [.data, .data, .data, .data, .sentinel, .sentinel, .data, .pinned], laidTests := true, laidLooks := .later }
def SignsNamesCardSaid : Prop := Claim7.holds Tryz.pinned (.plain (OpenSpec.ofChange signsNamesSpec)) signsNamesCard

/-- THE TIED CARD OF 'ostraconlaw01.SignsParses'. -/
def signsParsesCard : Claim7 := { stood := { row := signsParsesRow, standIns := [], harness := (true, "bb600c2166b9577d28e238ea511d61bc64eb4d7a1e03d3b0a4a5fefec28a8212"), looks := true }, kinds := [], alts := [], laidByText := true, laidKinds := [.data, .data, .data, .data, .sentinel, .sentinel, .data, .pinned], laidTests := true, laidLooks := .later }
def SignsParsesCardSaid : Prop := Claim7.holds Tryz.pinned (.plain (OpenSpec.ofChange signsParsesSpec)) signsParsesCard

/-- THE TIED CARD OF 'ostraconlaw01.SignsChecks'. -/
def signsChecksCard : Claim7 := { stood := { row := signsChecksRow, standIns := [], harness := (true, "bb600c2166b9577d28e238ea511d61bc64eb4d7a1e03d3b0a4a5fefec28a8212"), looks := true }, kinds := [], alts := [], laidByText := true, laidKinds := [.data, .data, .data, .data, .sentinel, .sentinel, .data, .pinned], laidTests := true, laidLooks := .later }
def SignsChecksCardSaid : Prop := Claim7.holds Tryz.pinned (.plain (OpenSpec.ofChange signsChecksSpec)) signsChecksCard

/-- THE TIED CARD OF 'ostraconlaw01.SignsBearers'. -/
def signsBearersCard : Claim7 := { stood := { row := signsBearersRow, standIns := [], harness := (true, "bb600c2166b9577d28e238ea511d61bc64eb4d7a1e03d3b0a4a5fefec28a8212"), looks := true }, kinds := [], alts := [], laidByText := true, laidKinds := [.data, .data, .data, .data, .sentinel, .sentinel, .data, .pinned], laidTests := true, laidLooks := .later }
def SignsBearersCardSaid : Prop := Claim7.holds Tryz.pinned (.plain (OpenSpec.ofChange signsBearersSpec)) signsBearersCard

/-- THE TIED CARD OF 'ostraconlaw01.SignsSame'. -/
def signsSameCard : Claim7 := { stood := { row := signsSameRow, standIns := [], harness := (true, "bb600c2166b9577d28e238ea511d61bc64eb4d7a1e03d3b0a4a5fefec28a8212"), looks := true }, kinds := [], alts := [], laidByText := true, laidKinds := [.data, .data, .data, .data, .sentinel, .sentinel, .data, .pinned], laidTests := true, laidLooks := .later }
def SignsSameCardSaid : Prop := Claim7.holds Tryz.pinned (.plain (OpenSpec.ofChange signsSameSpec)) signsSameCard

/-- THE TIED CARD OF 'ostraconlaw01.SignsValues'. -/
def signsValuesCard : Claim7 := { stood := { row := signsValuesRow, standIns := [], harness := (true, "bb600c2166b9577d28e238ea511d61bc64eb4d7a1e03d3b0a4a5fefec28a8212"), looks := true }, kinds := [], alts := [], laidByText := true, laidKinds := [.data, .data, .data, .data, .sentinel, .sentinel, .data, .pinned], laidTests := true, laidLooks := .later }
def SignsValuesCardSaid : Prop := Claim7.holds Tryz.pinned (.plain (OpenSpec.ofChange signsValuesSpec)) signsValuesCard

/-- THE TIED CARD OF 'ostraconlaw01.SignsReadsNames'. -/
def signsReadsNamesCard : Claim7 := { stood := { row := signsReadsNamesRow, standIns := [], harness := (true, "bb600c2166b9577d28e238ea511d61bc64eb4d7a1e03d3b0a4a5fefec28a8212"), looks := true }, kinds := [], alts := [], laidByText := true, laidKinds := [.data, .data, .data, .data, .sentinel, .sentinel, .data, .pinned], laidTests := true, laidLooks := .later }
def SignsReadsNamesCardSaid : Prop := Claim7.holds Tryz.pinned (.plain (OpenSpec.ofChange signsReadsNamesSpec)) signsReadsNamesCard

/-- THE TIED CARD OF 'ostraconlaw01.SignsFormats'. -/
def signsFormatsCard : Claim7 := { stood := { row := signsFormatsRow, standIns := [], harness := (true, "bb600c2166b9577d28e238ea511d61bc64eb4d7a1e03d3b0a4a5fefec28a8212"), looks := true }, kinds := [], alts := [], laidByText := true, laidKinds := [.data, .data, .data, .data, .sentinel, .sentinel, .data, .pinned], laidTests := true, laidLooks := .later }
def SignsFormatsCardSaid : Prop := Claim7.holds Tryz.pinned (.plain (OpenSpec.ofChange signsFormatsSpec)) signsFormatsCard

/-- THE TIED CARD OF 'ostraconlaw01.SignsNamed'. -/
def signsNamedCard : Claim7 := { stood := { row := signsNamedRow, standIns := [], harness := (true, "bb600c2166b9577d28e238ea511d61bc64eb4d7a1e03d3b0a4a5fefec28a8212"), looks := true }, kinds := [], alts := [], laidByText := true, laidKinds := [.data, .data, .data, .data, .sentinel, .sentinel, .data, .pinned], laidTests := true, laidLooks := .later }
def SignsNamedCardSaid : Prop := Claim7.holds Tryz.pinned (.plain (OpenSpec.ofChange signsNamedSpec)) signsNamedCard

/-- THE TIED CARD OF 'ostraconlaw01.SignsTidies'. -/
def signsTidiesCard : Claim7 := { stood := { row := signsTidiesRow, standIns := [], harness := (true, "bb600c2166b9577d28e238ea511d61bc64eb4d7a1e03d3b0a4a5fefec28a8212"), looks := true }, kinds := [], alts := [], laidByText := true, laidKinds := [.data, .data, .data, .data, .sentinel, .sentinel, .data, .pinned], laidTests := true, laidLooks := .later }
def SignsTidiesCardSaid : Prop := Claim7.holds Tryz.pinned (.plain (OpenSpec.ofChange signsTidiesSpec)) signsTidiesCard

/-- THE TIED CARD OF 'ostraconlaw01.SignsKept'. -/
def signsKeptCard : Claim7 := { stood := { row := signsKeptRow, standIns := [], harness := (true, "bb600c2166b9577d28e238ea511d61bc64eb4d7a1e03d3b0a4a5fefec28a8212"), looks := true }, kinds := [], alts := [], laidByText := true, laidKinds := [.data, .data, .data, .data, .sentinel, .sentinel, .data, .pinned], laidTests := true, laidLooks := .later }
def SignsKeptCardSaid : Prop := Claim7.holds Tryz.pinned (.plain (OpenSpec.ofChange signsKeptSpec)) signsKeptCard

/-- THE TIED CARD OF 'ostraconlaw01.SignsMerges'. -/
def signsMergesCard : Claim7 := { stood := { row := signsMergesRow, standIns := [], harness := (true, "bb600c2166b9577d28e238ea511d61bc64eb4d7a1e03d3b0a4a5fefec28a8212"), looks := true }, kinds := [], alts := [], laidByText := true, laidKinds := [.data, .data, .data, .data, .sentinel, .sentinel, .data, .pinned], laidTests := true, laidLooks := .later }
def SignsMergesCardSaid : Prop := Claim7.holds Tryz.pinned (.plain (OpenSpec.ofChange signsMergesSpec)) signsMergesCard

/-- THE TIED CARD OF 'ostraconlaw01.SignsMerged'. -/
def signsMergedCard : Claim7 := { stood := { row := signsMergedRow, standIns := [], harness := (true, "bb600c2166b9577d28e238ea511d61bc64eb4d7a1e03d3b0a4a5fefec28a8212"), looks := true }, kinds := [], alts := [], laidByText := true, laidKinds := [.data, .data, .data, .data, .sentinel, .sentinel, .data, .pinned], laidTests := true, laidLooks := .later }
def SignsMergedCardSaid : Prop := Claim7.holds Tryz.pinned (.plain (OpenSpec.ofChange signsMergedSpec)) signsMergedCard

/-- THE SECOND FORM's CARD OF 'ostraconlaw01.SignsNames'. -/
def signsNamesUptoCard : Claim7 := { stood := { row := signsNamesUptoRow, standIns := [], harness := (true, "bb600c2166b9577d28e238ea511d61bc64eb4d7a1e03d3b0a4a5fefec28a8212"), looks := true }, kinds := [], alts := [], laidByText := true, laidKinds := [.data, .data, .data, .data, .sentinel, .sentinel, .data, .pinned], laidTests := true, laidLooks := .later }
def SignsNamesUptoCardSaid : Prop := Claim7.holds Tryz.pinned (.plain (OpenSpec.upto signsNamesSpec)) signsNamesUptoCard

/-- THE SECOND FORM's CARD OF 'ostraconlaw01.SignsParses'. -/
def signsParsesUptoCard : Claim7 := { stood := { row := signsParsesUptoRow, standIns := [], harness := (true, "bb600c2166b9577d28e238ea511d61bc64eb4d7a1e03d3b0a4a5fefec28a8212"), looks := true }, kinds := [], alts := [], laidByText := true, laidKinds := [.data, .data, .data, .data, .sentinel, .sentinel, .data, .pinned], laidTests := true, laidLooks := .later }
def SignsParsesUptoCardSaid : Prop := Claim7.holds Tryz.pinned (.plain (OpenSpec.upto signsParsesSpec)) signsParsesUptoCard

/-- THE SECOND FORM's CARD OF 'ostraconlaw01.SignsChecks'. -/
def signsChecksUptoCard : Claim7 := { stood := { row := signsChecksUptoRow, standIns := [], harness := (true, "bb600c2166b9577d28e238ea511d61bc64eb4d7a1e03d3b0a4a5fefec28a8212"), looks := true }, kinds := [], alts := [], laidByText := true, laidKinds := [.data, .data, .data, .data, .sentinel, .sentinel, .data, .pinned], laidTests := true, laidLooks := .later }
def SignsChecksUptoCardSaid : Prop := Claim7.holds Tryz.pinned (.plain (OpenSpec.upto signsChecksSpec)) signsChecksUptoCard

/-- THE SECOND FORM's CARD OF 'ostraconlaw01.SignsBearers'. -/
def signsBearersUptoCard : Claim7 := { stood := { row := signsBearersUptoRow, standIns := [], harness := (true, "bb600c2166b9577d28e238ea511d61bc64eb4d7a1e03d3b0a4a5fefec28a8212"), looks := true }, kinds := [], alts := [], laidByText := true, laidKinds := [.data, .data, .data, .data, .sentinel, .sentinel, .data, .pinned], laidTests := true, laidLooks := .later }
def SignsBearersUptoCardSaid : Prop := Claim7.holds Tryz.pinned (.plain (OpenSpec.upto signsBearersSpec)) signsBearersUptoCard

/-- THE SECOND FORM's CARD OF 'ostraconlaw01.SignsSame'. -/
def signsSameUptoCard : Claim7 := { stood := { row := signsSameUptoRow, standIns := [], harness := (true, "bb600c2166b9577d28e238ea511d61bc64eb4d7a1e03d3b0a4a5fefec28a8212"), looks := true }, kinds := [], alts := [], laidByText := true, laidKinds := [.data, .data, .data, .data, .sentinel, .sentinel, .data, .pinned], laidTests := true, laidLooks := .later }
def SignsSameUptoCardSaid : Prop := Claim7.holds Tryz.pinned (.plain (OpenSpec.upto signsSameSpec)) signsSameUptoCard

/-- THE SECOND FORM's CARD OF 'ostraconlaw01.SignsValues'. -/
def signsValuesUptoCard : Claim7 := { stood := { row := signsValuesUptoRow, standIns := [], harness := (true, "bb600c2166b9577d28e238ea511d61bc64eb4d7a1e03d3b0a4a5fefec28a8212"), looks := true }, kinds := [], alts := [], laidByText := true, laidKinds := [.data, .data, .data, .data, .sentinel, .sentinel, .data, .pinned], laidTests := true, laidLooks := .later }
def SignsValuesUptoCardSaid : Prop := Claim7.holds Tryz.pinned (.plain (OpenSpec.upto signsValuesSpec)) signsValuesUptoCard

/-- THE SECOND FORM's CARD OF 'ostraconlaw01.SignsReadsNames'. -/
def signsReadsNamesUptoCard : Claim7 := { stood := { row := signsReadsNamesUptoRow, standIns := [], harness := (true, "bb600c2166b9577d28e238ea511d61bc64eb4d7a1e03d3b0a4a5fefec28a8212"), looks := true }, kinds := [], alts := [], laidByText := true, laidKinds := [.data, .data, .data, .data, .sentinel, .sentinel, .data, .pinned], laidTests := true, laidLooks := .later }
def SignsReadsNamesUptoCardSaid : Prop := Claim7.holds Tryz.pinned (.plain (OpenSpec.upto signsReadsNamesSpec)) signsReadsNamesUptoCard

/-- THE SECOND FORM's CARD OF 'ostraconlaw01.SignsFormats'. -/
def signsFormatsUptoCard : Claim7 := { stood := { row := signsFormatsUptoRow, standIns := [], harness := (true, "bb600c2166b9577d28e238ea511d61bc64eb4d7a1e03d3b0a4a5fefec28a8212"), looks := true }, kinds := [], alts := [], laidByText := true, laidKinds := [.data, .data, .data, .data, .sentinel, .sentinel, .data, .pinned], laidTests := true, laidLooks := .later }
def SignsFormatsUptoCardSaid : Prop := Claim7.holds Tryz.pinned (.plain (OpenSpec.upto signsFormatsSpec)) signsFormatsUptoCard

/-- THE SECOND FORM's CARD OF 'ostraconlaw01.SignsNamed'. -/
def signsNamedUptoCard : Claim7 := { stood := { row := signsNamedUptoRow, standIns := [], harness := (true, "bb600c2166b9577d28e238ea511d61bc64eb4d7a1e03d3b0a4a5fefec28a8212"), looks := true }, kinds := [], alts := [], laidByText := true, laidKinds := [.data, .data, .data, .data, .sentinel, .sentinel, .data, .pinned], laidTests := true, laidLooks := .later }
def SignsNamedUptoCardSaid : Prop := Claim7.holds Tryz.pinned (.plain (OpenSpec.upto signsNamedSpec)) signsNamedUptoCard

/-- THE SECOND FORM's CARD OF 'ostraconlaw01.SignsTidies'. -/
def signsTidiesUptoCard : Claim7 := { stood := { row := signsTidiesUptoRow, standIns := [], harness := (true, "bb600c2166b9577d28e238ea511d61bc64eb4d7a1e03d3b0a4a5fefec28a8212"), looks := true }, kinds := [], alts := [], laidByText := true, laidKinds := [.data, .data, .data, .data, .sentinel, .sentinel, .data, .pinned], laidTests := true, laidLooks := .later }
def SignsTidiesUptoCardSaid : Prop := Claim7.holds Tryz.pinned (.plain (OpenSpec.upto signsTidiesSpec)) signsTidiesUptoCard

/-- THE SECOND FORM's CARD OF 'ostraconlaw01.SignsKept'. -/
def signsKeptUptoCard : Claim7 := { stood := { row := signsKeptUptoRow, standIns := [], harness := (true, "bb600c2166b9577d28e238ea511d61bc64eb4d7a1e03d3b0a4a5fefec28a8212"), looks := true }, kinds := [], alts := [], laidByText := true, laidKinds := [.data, .data, .data, .data, .sentinel, .sentinel, .data, .pinned], laidTests := true, laidLooks := .later }
def SignsKeptUptoCardSaid : Prop := Claim7.holds Tryz.pinned (.plain (OpenSpec.upto signsKeptSpec)) signsKeptUptoCard

/-- THE SECOND FORM's CARD OF 'ostraconlaw01.SignsMerges'. -/
def signsMergesUptoCard : Claim7 := { stood := { row := signsMergesUptoRow, standIns := [], harness := (true, "bb600c2166b9577d28e238ea511d61bc64eb4d7a1e03d3b0a4a5fefec28a8212"), looks := true }, kinds := [], alts := [], laidByText := true, laidKinds := [.data, .data, .data, .data, .sentinel, .sentinel, .data, .pinned], laidTests := true, laidLooks := .later }
def SignsMergesUptoCardSaid : Prop := Claim7.holds Tryz.pinned (.plain (OpenSpec.upto signsMergesSpec)) signsMergesUptoCard

/-- THE SECOND FORM's CARD OF 'ostraconlaw01.SignsMerged'. -/
def signsMergedUptoCard : Claim7 := { stood := { row := signsMergedUptoRow, standIns := [], harness := (true, "bb600c2166b9577d28e238ea511d61bc64eb4d7a1e03d3b0a4a5fefec28a8212"), looks := true }, kinds := [], alts := [], laidByText := true, laidKinds := [.data, .data, .data, .data, .sentinel, .sentinel, .data, .pinned], laidTests := true, laidLooks := .later }
def SignsMergedUptoCardSaid : Prop := Claim7.holds Tryz.pinned (.plain (OpenSpec.upto signsMergedSpec)) signsMergedUptoCard
end Rows
end Go.Proofs.YtkmimjngmfdpmaaGreatDoor
