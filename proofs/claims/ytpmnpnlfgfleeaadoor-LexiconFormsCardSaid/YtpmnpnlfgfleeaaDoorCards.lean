/-
  DERIVED. GIVEN WITH THE SEED: THE CARDS: each row of YtpmnpnlfgfleeaaDoorRows.lean that lists a variable, with what it lists TIED to the program's text (the seventh form; the later family's looks); each row that meets fmt, with fmt's text TOLD by the authors' own Lean function (tested against real Go, not proved from fmt's source: count such statements apart). THE CARD IS WHAT COUNTS. Prove the row's statement (the work); the ties are given (YtpmnpnlfgfleeaaDoorTie.lean); close each card by the builder's one call (the guide's Derived/Test/ToyasCard.lean, 'card_holds'). Laid BY PROGRAM, IN A SANDBOX (cutbox-door.mjs). By AI agents, Wed Nov 11 2026. No macro, syntax, notation, axiom, sorry.
-/
import Derived.Test.YtpmnpnlfgfleeaaDoorRows
import GoSem.ClaimSeven
namespace Go.Proofs.YtpmnpnlfgfleeaaDoor
namespace Rows

/-- THE TIED CARD OF 'ostraconlaw05.LexiconForms'. -/
def lexiconFormsCard : Claim7 := { stood := { row := lexiconFormsRow, standIns := [], harness := (true, "da52249e547e2667d14850f77f9f2a48ee4c2edcc310227d10c8983068f5f7bf"), looks := false }, kinds := [], alts := [], laidByText := true, laidKinds := [.data, .data, .data], laidTests := true, laidLooks := .later }
def LexiconFormsCardSaid : Prop := Claim7.holds Tryd.pinned (.plain (OpenSpec.ofChange lexiconFormsSpec)) lexiconFormsCard

/-- THE SECOND FORM's CARD OF 'ostraconlaw05.LexiconForms'. -/
def lexiconFormsUptoCard : Claim7 := { stood := { row := lexiconFormsUptoRow, standIns := [], harness := (true, "da52249e547e2667d14850f77f9f2a48ee4c2edcc310227d10c8983068f5f7bf"), looks := false }, kinds := [], alts := [], laidByText := true, laidKinds := [.data, .data, .data], laidTests := true, laidLooks := .later }
def LexiconFormsUptoCardSaid : Prop := Claim7.holds Tryd.pinned (.plain (OpenSpec.upto lexiconFormsSpec)) lexiconFormsUptoCard
end Rows
end Go.Proofs.YtpmnpnlfgfleeaaDoor
