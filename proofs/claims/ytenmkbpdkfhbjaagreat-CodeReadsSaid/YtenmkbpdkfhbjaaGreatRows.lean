/-
  No cell of these rows narrows 'for every input' (looked for: loops, veiled, ifaces, maps, wideKeys, modest, calm, conditions, laid).
  DERIVED. THE GIVEN ROWS OF THIS SEAT. 8 by the template 'for every input the law returns true; each argument reads behind the call as it read before'; 0 by the template 'total and deterministic' (their statements: YtenmkbpdkfhbjaaGreatTotals.lean).
  GIVEN WITH THE SEED: the statements are not yours to turn. If you find one false, say at which input.
  Laid BY PROGRAM, IN A SANDBOX (cutbox-rows.mjs): the forced cells as the released guide's own fill.sh prints them over the translation 3cfff9e1784f14c0… (all of the seat's roots in one cut). By AI agents, Wed Nov 11 2026. No macro, syntax, notation, axiom, sorry.
-/
import Derived.Test.YtenmkbpdkfhbjaaGreatChecked
import GoSem.Claim
import GoSem.ClaimJoined
import GoSem.ClaimMapViews
import Derived.JoinedTies
import Derived.KernelRfl
namespace Go.Proofs.YtenmkbpdkfhbjaaGreat
/- THE CELL 'sum', in the pinned program and in every row, IS THE sha256 OF THE DUMP (.gsa) THAT YtenmkbpdkfhbjaaGreatProg.lean LOADS. Nothing in Lean hashes anything: it is a label: what it is worth is what the hold of that sum in a sandbox is worth. -/
noncomputable def Tryz.pinned : Pinned := { name := "ytenmkbpdkfhbjaagreat", sum := "3cfff9e1784f14c0729e6a5f14be4c07500071484962112ff269c2ca31b67817", checked := Tryz.checked }
namespace Rows
def none {H : Type} : Left H := { results := [], args := [] }

/-- 'ostraconlaw03.CodeLacks': WHATEVER THE INPUT: true; the input reads as it did. -/
def codeLacksSpec : ChangeSpec := { name := "codeLacks", fn := fun _ => fun
  | [d1, d2] => { results := [.lit (.bool true)], args := [d1, d2] }
  | _ => none }
def codeLacksRow : OpenClaim := { program := "ytenmkbpdkfhbjaagreat", sum := "3cfff9e1784f14c0729e6a5f14be4c07500071484962112ff269c2ca31b67817", func := "ostracon/ostraconlaw03.CodeLacks", spec := "codeLacks", unfollowed := true, recurses := true, apart := false }
def CodeLacksSaid : Prop := codeLacksRow.holds Tryz.pinned (OpenSpec.ofChange codeLacksSpec)

/-- ITS FALSE NEIGHBOUR: 'it returns false'. Refute it at one input. -/
def codeLacksWrong : ChangeSpec := { name := "codeLacks", fn := fun _ => fun
  | [d1, d2] => { results := [.lit (.bool false)], args := [d1, d2] }
  | _ => none }
def CodeLacksWrongFalsely : Prop := codeLacksRow.holds Tryz.pinned (OpenSpec.ofChange codeLacksWrong)

/-- 'ostraconlaw03.CodeReads': WHATEVER THE INPUT: true; the input reads as it did. -/
def codeReadsSpec : ChangeSpec := { name := "codeReads", fn := fun _ => fun
  | [d] => { results := [.lit (.bool true)], args := [d] }
  | _ => none }
def codeReadsRow : OpenClaim := { program := "ytenmkbpdkfhbjaagreat", sum := "3cfff9e1784f14c0729e6a5f14be4c07500071484962112ff269c2ca31b67817", func := "ostracon/ostraconlaw03.CodeReads", spec := "codeReads", unfollowed := true, recurses := true, apart := false }
def CodeReadsSaid : Prop := codeReadsRow.holds Tryz.pinned (OpenSpec.ofChange codeReadsSpec)

/-- ITS FALSE NEIGHBOUR: 'it returns false'. Refute it at one input. -/
def codeReadsWrong : ChangeSpec := { name := "codeReads", fn := fun _ => fun
  | [d] => { results := [.lit (.bool false)], args := [d] }
  | _ => none }
def CodeReadsWrongFalsely : Prop := codeReadsRow.holds Tryz.pinned (OpenSpec.ofChange codeReadsWrong)

/-- 'ostraconlaw03.CodeOneWay': WHATEVER THE INPUT: true; the input reads as it did. -/
def codeOneWaySpec : ChangeSpec := { name := "codeOneWay", fn := fun _ => fun
  | [d] => { results := [.lit (.bool true)], args := [d] }
  | _ => none }
def codeOneWayRow : OpenClaim := { program := "ytenmkbpdkfhbjaagreat", sum := "3cfff9e1784f14c0729e6a5f14be4c07500071484962112ff269c2ca31b67817", func := "ostracon/ostraconlaw03.CodeOneWay", spec := "codeOneWay", unfollowed := true, recurses := true, apart := false }
def CodeOneWaySaid : Prop := codeOneWayRow.holds Tryz.pinned (OpenSpec.ofChange codeOneWaySpec)

/-- ITS FALSE NEIGHBOUR: 'it returns false'. Refute it at one input. -/
def codeOneWayWrong : ChangeSpec := { name := "codeOneWay", fn := fun _ => fun
  | [d] => { results := [.lit (.bool false)], args := [d] }
  | _ => none }
def CodeOneWayWrongFalsely : Prop := codeOneWayRow.holds Tryz.pinned (OpenSpec.ofChange codeOneWayWrong)

/-- 'ostraconlaw03.CodeWrites': WHATEVER THE INPUT: true; the input reads as it did. -/
def codeWritesSpec : ChangeSpec := { name := "codeWrites", fn := fun _ => fun
  | [d1, d2] => { results := [.lit (.bool true)], args := [d1, d2] }
  | _ => none }
def codeWritesRow : OpenClaim := { program := "ytenmkbpdkfhbjaagreat", sum := "3cfff9e1784f14c0729e6a5f14be4c07500071484962112ff269c2ca31b67817", func := "ostracon/ostraconlaw03.CodeWrites", spec := "codeWrites", unfollowed := true, recurses := true, apart := false }
def CodeWritesSaid : Prop := codeWritesRow.holds Tryz.pinned (OpenSpec.ofChange codeWritesSpec)

/-- ITS FALSE NEIGHBOUR: 'it returns false'. Refute it at one input. -/
def codeWritesWrong : ChangeSpec := { name := "codeWrites", fn := fun _ => fun
  | [d1, d2] => { results := [.lit (.bool false)], args := [d1, d2] }
  | _ => none }
def CodeWritesWrongFalsely : Prop := codeWritesRow.holds Tryz.pinned (OpenSpec.ofChange codeWritesWrong)

/-- 'ostraconlaw03.CodeBack': WHATEVER THE INPUT: true; the input reads as it did. -/
def codeBackSpec : ChangeSpec := { name := "codeBack", fn := fun _ => fun
  | [d] => { results := [.lit (.bool true)], args := [d] }
  | _ => none }
def codeBackRow : OpenClaim := { program := "ytenmkbpdkfhbjaagreat", sum := "3cfff9e1784f14c0729e6a5f14be4c07500071484962112ff269c2ca31b67817", func := "ostracon/ostraconlaw03.CodeBack", spec := "codeBack", unfollowed := true, recurses := true, apart := false }
def CodeBackSaid : Prop := codeBackRow.holds Tryz.pinned (OpenSpec.ofChange codeBackSpec)

/-- ITS FALSE NEIGHBOUR: 'it returns false'. Refute it at one input. -/
def codeBackWrong : ChangeSpec := { name := "codeBack", fn := fun _ => fun
  | [d] => { results := [.lit (.bool false)], args := [d] }
  | _ => none }
def CodeBackWrongFalsely : Prop := codeBackRow.holds Tryz.pinned (OpenSpec.ofChange codeBackWrong)

/-- 'ostraconlaw03.CodeTranslates': WHATEVER THE INPUT: true; the input reads as it did. -/
def codeTranslatesSpec : ChangeSpec := { name := "codeTranslates", fn := fun _ => fun
  | [d1, d2] => { results := [.lit (.bool true)], args := [d1, d2] }
  | _ => none }
def codeTranslatesRow : OpenClaim := { program := "ytenmkbpdkfhbjaagreat", sum := "3cfff9e1784f14c0729e6a5f14be4c07500071484962112ff269c2ca31b67817", func := "ostracon/ostraconlaw03.CodeTranslates", spec := "codeTranslates", unfollowed := true, recurses := true, apart := false }
def CodeTranslatesSaid : Prop := codeTranslatesRow.holds Tryz.pinned (OpenSpec.ofChange codeTranslatesSpec)

/-- ITS FALSE NEIGHBOUR: 'it returns false'. Refute it at one input. -/
def codeTranslatesWrong : ChangeSpec := { name := "codeTranslates", fn := fun _ => fun
  | [d1, d2] => { results := [.lit (.bool false)], args := [d1, d2] }
  | _ => none }
def CodeTranslatesWrongFalsely : Prop := codeTranslatesRow.holds Tryz.pinned (OpenSpec.ofChange codeTranslatesWrong)

/-- 'ostraconlaw03.CodeCarries': WHATEVER THE INPUT: true; the input reads as it did. -/
def codeCarriesSpec : ChangeSpec := { name := "codeCarries", fn := fun _ => fun
  | [d1, d2] => { results := [.lit (.bool true)], args := [d1, d2] }
  | _ => none }
def codeCarriesRow : OpenClaim := { program := "ytenmkbpdkfhbjaagreat", sum := "3cfff9e1784f14c0729e6a5f14be4c07500071484962112ff269c2ca31b67817", func := "ostracon/ostraconlaw03.CodeCarries", spec := "codeCarries", unfollowed := true, recurses := true, apart := false }
def CodeCarriesSaid : Prop := codeCarriesRow.holds Tryz.pinned (OpenSpec.ofChange codeCarriesSpec)

/-- ITS FALSE NEIGHBOUR: 'it returns false'. Refute it at one input. -/
def codeCarriesWrong : ChangeSpec := { name := "codeCarries", fn := fun _ => fun
  | [d1, d2] => { results := [.lit (.bool false)], args := [d1, d2] }
  | _ => none }
def CodeCarriesWrongFalsely : Prop := codeCarriesRow.holds Tryz.pinned (OpenSpec.ofChange codeCarriesWrong)

/-- 'ostraconlaw03.CodeSame': WHATEVER THE INPUT: true; the input reads as it did. -/
def codeSameSpec : ChangeSpec := { name := "codeSame", fn := fun _ => fun
  | [d1, d2] => { results := [.lit (.bool true)], args := [d1, d2] }
  | _ => none }
def codeSameRow : OpenClaim := { program := "ytenmkbpdkfhbjaagreat", sum := "3cfff9e1784f14c0729e6a5f14be4c07500071484962112ff269c2ca31b67817", func := "ostracon/ostraconlaw03.CodeSame", spec := "codeSame", unfollowed := true, recurses := true, apart := false }
def CodeSameSaid : Prop := codeSameRow.holds Tryz.pinned (OpenSpec.ofChange codeSameSpec)

/-- ITS FALSE NEIGHBOUR: 'it returns false'. Refute it at one input. -/
def codeSameWrong : ChangeSpec := { name := "codeSame", fn := fun _ => fun
  | [d1, d2] => { results := [.lit (.bool false)], args := [d1, d2] }
  | _ => none }
def CodeSameWrongFalsely : Prop := codeSameRow.holds Tryz.pinned (OpenSpec.ofChange codeSameWrong)

/- THE SECOND FORM. 'bulk': how many values and letters a reading holds, each counted each time it is reached (what is shared counts as often as it is met; a slice's spare places count too). A statement '..UptoSaid' is the law's where the arguments, and the package variables that the reading takes, are together of bulk at most 1048576: NARROWER than '..Said'. Prove '..Said' where nothing that the law and all that it calls make is longer than what came in: it says more and counts as full. Else prove '..UptoSaid'. A law counts once. -/
mutual
def uptoBulk {H : Type} : DataW H → Nat
  | .lit (.string bytes) => bytes.length + 1
  | .lit _ => 1
  | .nil => 1
  | .ptr d => uptoBulk d + 1
  | .slice elems spare => uptoBulkAll elems + uptoBulkAll spare + 1
  | .agg parts => uptoBulkAll parts + 1
  | .iface _ d => uptoBulk d + 1
  | .map entries => uptoBulkEntries entries + 1
  | .held _ => 1
def uptoBulkAll {H : Type} : List (DataW H) → Nat
  | [] => 0
  | d :: r => uptoBulk d + uptoBulkAll r
def uptoBulkEntries {H : Type} : List (Lit × DataW H) → Nat
  | [] => 0
  | x :: r => uptoBulkEntry x + uptoBulkEntries r
def uptoBulkEntry {H : Type} : Lit × DataW H → Nat
  | (.string bytes, d) => bytes.length + uptoBulk d + 1
  | (_, d) => uptoBulk d + 1
 end
def uptoSmall : (H : Type) → List (DataW H) → Bool := fun _ ds => decide (uptoBulkAll ds ≤ 1048576)
def OpenSpec.upto (s : _root_.Go.ChangeSpec) : _root_.Go.OpenSpec := { _root_.Go.OpenSpec.ofChange s with cond := some uptoSmall }

/-- 'ostraconlaw03.CodeLacks', WHERE WHAT IT READS IS OF BULK AT MOST 1048576: true; the input reads as it did. -/
def codeLacksUptoRow : OpenClaim := { program := "ytenmkbpdkfhbjaagreat", sum := "3cfff9e1784f14c0729e6a5f14be4c07500071484962112ff269c2ca31b67817", func := "ostracon/ostraconlaw03.CodeLacks", spec := "codeLacks", unfollowed := true, recurses := true, apart := false, narrowed := true }
def CodeLacksUptoSaid : Prop := codeLacksUptoRow.holds Tryz.pinned (OpenSpec.upto codeLacksSpec)

/-- 'ostraconlaw03.CodeReads', WHERE WHAT IT READS IS OF BULK AT MOST 1048576: true; the input reads as it did. -/
def codeReadsUptoRow : OpenClaim := { program := "ytenmkbpdkfhbjaagreat", sum := "3cfff9e1784f14c0729e6a5f14be4c07500071484962112ff269c2ca31b67817", func := "ostracon/ostraconlaw03.CodeReads", spec := "codeReads", unfollowed := true, recurses := true, apart := false, narrowed := true }
def CodeReadsUptoSaid : Prop := codeReadsUptoRow.holds Tryz.pinned (OpenSpec.upto codeReadsSpec)

/-- 'ostraconlaw03.CodeOneWay', WHERE WHAT IT READS IS OF BULK AT MOST 1048576: true; the input reads as it did. -/
def codeOneWayUptoRow : OpenClaim := { program := "ytenmkbpdkfhbjaagreat", sum := "3cfff9e1784f14c0729e6a5f14be4c07500071484962112ff269c2ca31b67817", func := "ostracon/ostraconlaw03.CodeOneWay", spec := "codeOneWay", unfollowed := true, recurses := true, apart := false, narrowed := true }
def CodeOneWayUptoSaid : Prop := codeOneWayUptoRow.holds Tryz.pinned (OpenSpec.upto codeOneWaySpec)

/-- 'ostraconlaw03.CodeWrites', WHERE WHAT IT READS IS OF BULK AT MOST 1048576: true; the input reads as it did. -/
def codeWritesUptoRow : OpenClaim := { program := "ytenmkbpdkfhbjaagreat", sum := "3cfff9e1784f14c0729e6a5f14be4c07500071484962112ff269c2ca31b67817", func := "ostracon/ostraconlaw03.CodeWrites", spec := "codeWrites", unfollowed := true, recurses := true, apart := false, narrowed := true }
def CodeWritesUptoSaid : Prop := codeWritesUptoRow.holds Tryz.pinned (OpenSpec.upto codeWritesSpec)

/-- 'ostraconlaw03.CodeBack', WHERE WHAT IT READS IS OF BULK AT MOST 1048576: true; the input reads as it did. -/
def codeBackUptoRow : OpenClaim := { program := "ytenmkbpdkfhbjaagreat", sum := "3cfff9e1784f14c0729e6a5f14be4c07500071484962112ff269c2ca31b67817", func := "ostracon/ostraconlaw03.CodeBack", spec := "codeBack", unfollowed := true, recurses := true, apart := false, narrowed := true }
def CodeBackUptoSaid : Prop := codeBackUptoRow.holds Tryz.pinned (OpenSpec.upto codeBackSpec)

/-- 'ostraconlaw03.CodeTranslates', WHERE WHAT IT READS IS OF BULK AT MOST 1048576: true; the input reads as it did. -/
def codeTranslatesUptoRow : OpenClaim := { program := "ytenmkbpdkfhbjaagreat", sum := "3cfff9e1784f14c0729e6a5f14be4c07500071484962112ff269c2ca31b67817", func := "ostracon/ostraconlaw03.CodeTranslates", spec := "codeTranslates", unfollowed := true, recurses := true, apart := false, narrowed := true }
def CodeTranslatesUptoSaid : Prop := codeTranslatesUptoRow.holds Tryz.pinned (OpenSpec.upto codeTranslatesSpec)

/-- 'ostraconlaw03.CodeCarries', WHERE WHAT IT READS IS OF BULK AT MOST 1048576: true; the input reads as it did. -/
def codeCarriesUptoRow : OpenClaim := { program := "ytenmkbpdkfhbjaagreat", sum := "3cfff9e1784f14c0729e6a5f14be4c07500071484962112ff269c2ca31b67817", func := "ostracon/ostraconlaw03.CodeCarries", spec := "codeCarries", unfollowed := true, recurses := true, apart := false, narrowed := true }
def CodeCarriesUptoSaid : Prop := codeCarriesUptoRow.holds Tryz.pinned (OpenSpec.upto codeCarriesSpec)

/-- 'ostraconlaw03.CodeSame', WHERE WHAT IT READS IS OF BULK AT MOST 1048576: true; the input reads as it did. -/
def codeSameUptoRow : OpenClaim := { program := "ytenmkbpdkfhbjaagreat", sum := "3cfff9e1784f14c0729e6a5f14be4c07500071484962112ff269c2ca31b67817", func := "ostracon/ostraconlaw03.CodeSame", spec := "codeSame", unfollowed := true, recurses := true, apart := false, narrowed := true }
def CodeSameUptoSaid : Prop := codeSameUptoRow.holds Tryz.pinned (OpenSpec.upto codeSameSpec)

end Rows
end Go.Proofs.YtenmkbpdkfhbjaaGreat
