/-
  DERIVED. GIVEN WITH THE SEED: THE CARDS: each row of YtpmfjndbckblfaaDoorRows.lean that lists a variable, with what it lists TIED to the program's text (the seventh form; the later family's looks); each row that meets fmt, with fmt's text TOLD by the authors' own Lean function (tested against real Go, not proved from fmt's source: count such statements apart). THE CARD IS WHAT COUNTS. Prove the row's statement (the work); the ties are given (YtpmfjndbckblfaaDoorTie.lean); close each card by the builder's one call (the guide's Derived/Test/ToyasCard.lean, 'card_holds'). Laid BY PROGRAM, IN A SANDBOX (cutbox-door.mjs). By AI agents, Wed Nov 11 2026. No macro, syntax, notation, axiom, sorry.
-/
import Derived.Test.YtpmfjndbckblfaaDoorRows
import GoSem.ClaimSeven
namespace Go.Proofs.YtpmfjndbckblfaaDoor
namespace Rows

/-- THE TIED CARD OF 'ostraconlaw05.LexiconChecks'. -/
def lexiconChecksCard : Claim7 := { stood := { row := lexiconChecksRow, standIns := [], harness := (true, "cad8c276c5bf2ba2d9aeac2239e810f15b80a0f5a834351b803d708a2615c3eb"), looks := false }, kinds := [], alts := [], laidByText := true, laidKinds := [.data, .data, .data], laidTests := true, laidLooks := .later }
def LexiconChecksCardSaid : Prop := Claim7.holds Tryd.pinned (.plain (OpenSpec.ofChange lexiconChecksSpec)) lexiconChecksCard

/-- THE TIED CARD OF 'ostraconlaw05.LexiconCuts'. -/
def lexiconCutsCard : Claim7 := { stood := { row := lexiconCutsRow, standIns := [], harness := (true, "cad8c276c5bf2ba2d9aeac2239e810f15b80a0f5a834351b803d708a2615c3eb"), looks := false }, kinds := [], alts := [], laidByText := true, laidKinds := [.data, .data, .data], laidTests := true, laidLooks := .later }
def LexiconCutsCardSaid : Prop := Claim7.holds Tryd.pinned (.plain (OpenSpec.ofChange lexiconCutsSpec)) lexiconCutsCard

/-- THE TIED CARD OF 'ostraconlaw05.LexiconSounds'. -/
def lexiconSoundsCard : Claim7 := { stood := { row := lexiconSoundsRow, standIns := [], harness := (true, "cad8c276c5bf2ba2d9aeac2239e810f15b80a0f5a834351b803d708a2615c3eb"), looks := false }, kinds := [], alts := [], laidByText := true, laidKinds := [.data, .data, .data], laidTests := true, laidLooks := .later }
def LexiconSoundsCardSaid : Prop := Claim7.holds Tryd.pinned (.plain (OpenSpec.ofChange lexiconSoundsSpec)) lexiconSoundsCard

/-- THE TIED CARD OF 'ostraconlaw05.LexiconWays'. -/
def lexiconWaysCard : Claim7 := { stood := { row := lexiconWaysRow, standIns := [], harness := (true, "cad8c276c5bf2ba2d9aeac2239e810f15b80a0f5a834351b803d708a2615c3eb"), looks := false }, kinds := [], alts := [], laidByText := true, laidKinds := [.data, .data, .data], laidTests := true, laidLooks := .later }
def LexiconWaysCardSaid : Prop := Claim7.holds Tryd.pinned (.plain (OpenSpec.ofChange lexiconWaysSpec)) lexiconWaysCard

/-- THE TIED CARD OF 'ostraconlaw05.LexiconCutApart'. -/
def lexiconCutApartCard : Claim7 := { stood := { row := lexiconCutApartRow, standIns := [], harness := (true, "cad8c276c5bf2ba2d9aeac2239e810f15b80a0f5a834351b803d708a2615c3eb"), looks := false }, kinds := [], alts := [], laidByText := true, laidKinds := [.data, .data, .data], laidTests := true, laidLooks := .later }
def LexiconCutApartCardSaid : Prop := Claim7.holds Tryd.pinned (.plain (OpenSpec.ofChange lexiconCutApartSpec)) lexiconCutApartCard

/-- THE TIED CARD OF 'ostraconlaw05.LexiconWith'. -/
def lexiconWithCard : Claim7 := { stood := { row := lexiconWithRow, standIns := [], harness := (true, "cad8c276c5bf2ba2d9aeac2239e810f15b80a0f5a834351b803d708a2615c3eb"), looks := false }, kinds := [], alts := [], laidByText := true, laidKinds := [.data, .data, .data], laidTests := true, laidLooks := .later }
def LexiconWithCardSaid : Prop := Claim7.holds Tryd.pinned (.plain (OpenSpec.ofChange lexiconWithSpec)) lexiconWithCard

/-- THE TIED CARD OF 'ostraconlaw05.LexiconForms'. -/
def lexiconFormsCard : Claim7 := { stood := { row := lexiconFormsRow, standIns := [], harness := (true, "cad8c276c5bf2ba2d9aeac2239e810f15b80a0f5a834351b803d708a2615c3eb"), looks := false }, kinds := [], alts := [], laidByText := true, laidKinds := [.data, .data, .data], laidTests := true, laidLooks := .later }
def LexiconFormsCardSaid : Prop := Claim7.holds Tryd.pinned (.plain (OpenSpec.ofChange lexiconFormsSpec)) lexiconFormsCard

/-- THE TIED CARD OF 'ostraconlaw05.LexiconGlosses'. -/
def lexiconGlossesCard : Claim7 := { stood := { row := lexiconGlossesRow, standIns := [], harness := (true, "cad8c276c5bf2ba2d9aeac2239e810f15b80a0f5a834351b803d708a2615c3eb"), looks := false }, kinds := [], alts := [], laidByText := true, laidKinds := [.data, .data, .data, .data, .pinned], laidTests := true, laidLooks := .later }
def LexiconGlossesCardSaid : Prop := Claim7.holds Tryd.pinned (.plain (OpenSpec.ofChange lexiconGlossesSpec)) lexiconGlossesCard

/-- THE SECOND FORM's CARD OF 'ostraconlaw05.LexiconChecks'. -/
def lexiconChecksUptoCard : Claim7 := { stood := { row := lexiconChecksUptoRow, standIns := [], harness := (true, "cad8c276c5bf2ba2d9aeac2239e810f15b80a0f5a834351b803d708a2615c3eb"), looks := false }, kinds := [], alts := [], laidByText := true, laidKinds := [.data, .data, .data], laidTests := true, laidLooks := .later }
def LexiconChecksUptoCardSaid : Prop := Claim7.holds Tryd.pinned (.plain (OpenSpec.upto lexiconChecksSpec)) lexiconChecksUptoCard

/-- THE SECOND FORM's CARD OF 'ostraconlaw05.LexiconCuts'. -/
def lexiconCutsUptoCard : Claim7 := { stood := { row := lexiconCutsUptoRow, standIns := [], harness := (true, "cad8c276c5bf2ba2d9aeac2239e810f15b80a0f5a834351b803d708a2615c3eb"), looks := false }, kinds := [], alts := [], laidByText := true, laidKinds := [.data, .data, .data], laidTests := true, laidLooks := .later }
def LexiconCutsUptoCardSaid : Prop := Claim7.holds Tryd.pinned (.plain (OpenSpec.upto lexiconCutsSpec)) lexiconCutsUptoCard

/-- THE SECOND FORM's CARD OF 'ostraconlaw05.LexiconSounds'. -/
def lexiconSoundsUptoCard : Claim7 := { stood := { row := lexiconSoundsUptoRow, standIns := [], harness := (true, "cad8c276c5bf2ba2d9aeac2239e810f15b80a0f5a834351b803d708a2615c3eb"), looks := false }, kinds := [], alts := [], laidByText := true, laidKinds := [.data, .data, .data], laidTests := true, laidLooks := .later }
def LexiconSoundsUptoCardSaid : Prop := Claim7.holds Tryd.pinned (.plain (OpenSpec.upto lexiconSoundsSpec)) lexiconSoundsUptoCard

/-- THE SECOND FORM's CARD OF 'ostraconlaw05.LexiconWays'. -/
def lexiconWaysUptoCard : Claim7 := { stood := { row := lexiconWaysUptoRow, standIns := [], harness := (true, "cad8c276c5bf2ba2d9aeac2239e810f15b80a0f5a834351b803d708a2615c3eb"), looks := false }, kinds := [], alts := [], laidByText := true, laidKinds := [.data, .data, .data], laidTests := true, laidLooks := .later }
def LexiconWaysUptoCardSaid : Prop := Claim7.holds Tryd.pinned (.plain (OpenSpec.upto lexiconWaysSpec)) lexiconWaysUptoCard

/-- THE SECOND FORM's CARD OF 'ostraconlaw05.LexiconCutApart'. -/
def lexiconCutApartUptoCard : Claim7 := { stood := { row := lexiconCutApartUptoRow, standIns := [], harness := (true, "cad8c276c5bf2ba2d9aeac2239e810f15b80a0f5a834351b803d708a2615c3eb"), looks := false }, kinds := [], alts := [], laidByText := true, laidKinds := [.data, .data, .data], laidTests := true, laidLooks := .later }
def LexiconCutApartUptoCardSaid : Prop := Claim7.holds Tryd.pinned (.plain (OpenSpec.upto lexiconCutApartSpec)) lexiconCutApartUptoCard

/-- THE SECOND FORM's CARD OF 'ostraconlaw05.LexiconWith'. -/
def lexiconWithUptoCard : Claim7 := { stood := { row := lexiconWithUptoRow, standIns := [], harness := (true, "cad8c276c5bf2ba2d9aeac2239e810f15b80a0f5a834351b803d708a2615c3eb"), looks := false }, kinds := [], alts := [], laidByText := true, laidKinds := [.data, .data, .data], laidTests := true, laidLooks := .later }
def LexiconWithUptoCardSaid : Prop := Claim7.holds Tryd.pinned (.plain (OpenSpec.upto lexiconWithSpec)) lexiconWithUptoCard

/-- THE SECOND FORM's CARD OF 'ostraconlaw05.LexiconForms'. -/
def lexiconFormsUptoCard : Claim7 := { stood := { row := lexiconFormsUptoRow, standIns := [], harness := (true, "cad8c276c5bf2ba2d9aeac2239e810f15b80a0f5a834351b803d708a2615c3eb"), looks := false }, kinds := [], alts := [], laidByText := true, laidKinds := [.data, .data, .data], laidTests := true, laidLooks := .later }
def LexiconFormsUptoCardSaid : Prop := Claim7.holds Tryd.pinned (.plain (OpenSpec.upto lexiconFormsSpec)) lexiconFormsUptoCard

/-- THE SECOND FORM's CARD OF 'ostraconlaw05.LexiconGlosses'. -/
def lexiconGlossesUptoCard : Claim7 := { stood := { row := lexiconGlossesUptoRow, standIns := [], harness := (true, "cad8c276c5bf2ba2d9aeac2239e810f15b80a0f5a834351b803d708a2615c3eb"), looks := false }, kinds := [], alts := [], laidByText := true, laidKinds := [.data, .data, .data, .data, .pinned], laidTests := true, laidLooks := .later }
def LexiconGlossesUptoCardSaid : Prop := Claim7.holds Tryd.pinned (.plain (OpenSpec.upto lexiconGlossesSpec)) lexiconGlossesUptoCard
end Rows
end Go.Proofs.YtpmfjndbckblfaaDoor
