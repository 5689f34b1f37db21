/- A string that comes in. -/
import Derived.Test.YtpmfjndbckblfaaDoorMgOpenSaid
import Derived.ChangeMaps5
namespace Go.Proofs.YtpmfjndbckblfaaDoor
open Go.ChangeShapes Go.WideShapes Go.ChangeAt Go.RowKit Go.Joins Go.Deep

set_option maxRecDepth 100000 in
theorem open_text {H : Type} {enc : TypeId × Value → H} {w : World} {base : Nat} {spare : Nat → Bool} {held : Bool} {r : Reach} {b0 : Nat} {v : Value} {d : DataW H} {ps : List MemPlace} (hv : Value.okWide Tryd.prog w r b0 9 v) (hd : DataW.Trod enc Tryd.prog w base spare held 9 v d ps) :
    ∃ s : ByteArray, v = .string s ∧ d = .lit (.string s.data.toList) ∧ ps = [] ∧ s.size ≤ maxLen :=
  Go.ChangeMaps.open_string Tryd.underlying9 hv hd
set_option maxRecDepth 100000 in
theorem shut_text {H : Type} {enc : TypeId × Value → H} {w : World} {base : Nat} {spare : Nat → Bool} {held : Bool} {s : ByteArray} (hs : s.size ≤ maxLen) : DataW.Trod enc Tryd.prog w base spare held 9 (.string s) (.lit (.string s.data.toList)) [] :=
  Go.ChangeMaps.shut_string Tryd.underlying9 hs
end Go.Proofs.YtpmfjndbckblfaaDoor
