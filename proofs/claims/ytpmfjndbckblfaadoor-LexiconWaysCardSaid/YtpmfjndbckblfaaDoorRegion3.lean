/- As XRegion2, the frame handed to the relation. -/
import Derived.Test.YtpmfjndbckblfaaDoorRegion2
namespace Go.Proofs.YtpmfjndbckblfaaDoor
open Go Go.RowKit
theorem wp_region_inv2T {P : Program} {id : Nat} {l : List Oper} {t : Array Value} {df : List Deferred} {w : World} {Q : Exit → Act → World → Prop} (I : Array Value → Array Bool → Act → World → Prop) (hm : P.follows .mixedOrders = true) (ht : tidyOps2 .any l.toArray = true)
    (h0 : I t (Array.replicate l.length false) ⟨t, df⟩ w.drew)
    (hstep : ∀ t0 d a w i, d.size = l.length → I t0 d a w → i ∈ Region.ready .any l.toArray d → wpOp P l.toArray Q i (I t0 (d.setIfInBounds i true)) a w)
    (hend : ∀ d a w, d.size = l.length → I t d a w → (∀ i, i < l.length → d.getD i true = true) → Q .normal a w) :
    (Code.region id l.toArray true).wp P Q ⟨t, df⟩ w := wp_region_inv2 (I t) hm ht h0 (hstep t) hend
end Go.Proofs.YtpmfjndbckblfaaDoor
