/-
  DERIVED. GIVEN WITH THE SEED: THE CARDS: each row of YtpmnpnlfgfleeaaGreatDoorRows.lean that lists a variable, with what it lists TIED to the program's text (the seventh form; the later family's looks); each row that meets fmt, with fmt's text TOLD by the authors' own Lean function (tested against real Go, not proved from fmt's source: count such statements apart). THE CARD IS WHAT COUNTS. Prove the row's statement (the work); the ties are given (YtpmnpnlfgfleeaaGreatDoorTie.lean); close each card by the builder's one call (the guide's Derived/Test/ToyasCard.lean, 'card_holds'). Laid BY PROGRAM, IN A SANDBOX (cutbox-door.mjs). By AI agents, Wed Nov 11 2026. No macro, syntax, notation, axiom, sorry.
-/
import Derived.Test.YtpmnpnlfgfleeaaGreatDoorRows
import GoSem.ClaimSeven
namespace Go.Proofs.YtpmnpnlfgfleeaaGreatDoor
namespace Rows

/-- THE TIED CARD OF 'ostraconlaw05.LexiconFound'. -/
def lexiconFoundCard : Claim7 := { stood := { row := lexiconFoundRow, standIns := [], harness := (true, "b03bddc04fa977f4576640f345e045f1a470d936f4442efe852fecd5f972ea15"), looks := true }, kinds := [], alts := [], laidByText := true, laidKinds := [.data, .data, .data, .data, .pinned], laidTests := true, laidLooks := .later }
def LexiconFoundCardSaid : Prop := Claim7.holds Tryz.pinned (.plain (OpenSpec.ofChange lexiconFoundSpec)) lexiconFoundCard

/-- THE TIED CARD OF 'ostraconlaw05.LexiconParses'. -/
def lexiconParsesCard : Claim7 := { stood := { row := lexiconParsesRow, standIns := [], harness := (true, "b03bddc04fa977f4576640f345e045f1a470d936f4442efe852fecd5f972ea15"), looks := true }, kinds := [], alts := [], laidByText := true, laidKinds := [.data, .data, .data, .data, .sentinel, .sentinel, .pinned], laidTests := true, laidLooks := .later }
def LexiconParsesCardSaid : Prop := Claim7.holds Tryz.pinned (.plain (OpenSpec.ofChange lexiconParsesSpec)) lexiconParsesCard

/-- THE TIED CARD OF 'ostraconlaw05.LexiconFormats'. -/
def lexiconFormatsCard : Claim7 := { stood := { row := lexiconFormatsRow, standIns := [], harness := (true, "b03bddc04fa977f4576640f345e045f1a470d936f4442efe852fecd5f972ea15"), looks := true }, kinds := [], alts := [], laidByText := true, laidKinds := [.data, .data, .data, .data, .sentinel, .sentinel, .pinned], laidTests := true, laidLooks := .later }
def LexiconFormatsCardSaid : Prop := Claim7.holds Tryz.pinned (.plain (OpenSpec.ofChange lexiconFormatsSpec)) lexiconFormatsCard

/-- THE SECOND FORM's CARD OF 'ostraconlaw05.LexiconFound'. -/
def lexiconFoundUptoCard : Claim7 := { stood := { row := lexiconFoundUptoRow, standIns := [], harness := (true, "b03bddc04fa977f4576640f345e045f1a470d936f4442efe852fecd5f972ea15"), looks := true }, kinds := [], alts := [], laidByText := true, laidKinds := [.data, .data, .data, .data, .pinned], laidTests := true, laidLooks := .later }
def LexiconFoundUptoCardSaid : Prop := Claim7.holds Tryz.pinned (.plain (OpenSpec.upto lexiconFoundSpec)) lexiconFoundUptoCard

/-- THE SECOND FORM's CARD OF 'ostraconlaw05.LexiconParses'. -/
def lexiconParsesUptoCard : Claim7 := { stood := { row := lexiconParsesUptoRow, standIns := [], harness := (true, "b03bddc04fa977f4576640f345e045f1a470d936f4442efe852fecd5f972ea15"), looks := true }, kinds := [], alts := [], laidByText := true, laidKinds := [.data, .data, .data, .data, .sentinel, .sentinel, .pinned], laidTests := true, laidLooks := .later }
def LexiconParsesUptoCardSaid : Prop := Claim7.holds Tryz.pinned (.plain (OpenSpec.upto lexiconParsesSpec)) lexiconParsesUptoCard

/-- THE SECOND FORM's CARD OF 'ostraconlaw05.LexiconFormats'. -/
def lexiconFormatsUptoCard : Claim7 := { stood := { row := lexiconFormatsUptoRow, standIns := [], harness := (true, "b03bddc04fa977f4576640f345e045f1a470d936f4442efe852fecd5f972ea15"), looks := true }, kinds := [], alts := [], laidByText := true, laidKinds := [.data, .data, .data, .data, .sentinel, .sentinel, .pinned], laidTests := true, laidLooks := .later }
def LexiconFormatsUptoCardSaid : Prop := Claim7.holds Tryz.pinned (.plain (OpenSpec.upto lexiconFormatsSpec)) lexiconFormatsUptoCard
end Rows
end Go.Proofs.YtpmnpnlfgfleeaaGreatDoor
