/- As XRegion, where some edges bind in some modes alone. -/
import Derived.Test.YtpmnpnlfgfleeaaDoorMgRegion
namespace Go.Proofs.YtpmnpnlfgfleeaaDoor
open Go Go.RowKit

section
variable {P : Program} {ops : Array Oper} {Q : Exit → Act → World → Prop} {md : Region.Mode}
/-- every edge that binds goes to an operation that stands before -/
def tidyOps2 (md : Region.Mode) (ops : Array Oper) : Bool := (List.range ops.size).all fun i => ((ops[i]?).map fun o => o.after.all fun e => decide (e.on < i) || !Region.binds md e).getD true

theorem all_of_ready2 {l : Array Bool} (ht : tidyOps2 md ops = true) (hs : l.size = ops.size) (h : Region.ready md ops l = []) : ∀ i, i < ops.size → l.getD i true = true := by
  intro i
  induction i using Nat.strongRecOn with
  | _ i ih =>
    intro hi
    by_cases hd : l.getD i true = true
    · exact hd
    · exfalso
      have hm : i ∈ Region.ready md ops l := by
        unfold Region.ready
        rw [List.mem_filter, List.mem_range]
        refine ⟨hi, ?_⟩
        have ho : ops[i]? = some ops[i] := Array.getElem?_eq_getElem hi
        have hd' : l.getD i true = false := by simpa using hd
        rw [hd', ho]
        show (true && _) = true
        rw [Bool.true_and, Option.map_some, Option.getD_some, Array.all_eq_true']
        intro e he
        have h3 : e.on < i ∨ Region.binds md e = false := by
          have h1 := List.all_eq_true.1 ht i (List.mem_range.2 hi)
          rw [ho] at h1
          simp only [Option.map_some, Option.getD_some] at h1
          simpa using Array.all_eq_true'.1 h1 e he
        rcases h3 with hlt | hnb
        · have := ih e.on hlt (by omega)
          have h2 : l.getD e.on false = true := by
            simp [Array.getD, hs, (by omega : e.on < ops.size)] at this ⊢
            exact this
          simp [h2]
        · simp [hnb]
      rw [h] at hm
      cases hm

theorem wpAny_inv2 (I : Array Bool → Act → World → Prop) (ht : tidyOps2 md ops = true)
    (hstep : ∀ l a w i, l.size = ops.size → I l a w → i ∈ Region.ready md ops l → wpOp P ops Q i (I (l.setIfInBounds i true)) a w)
    (hend : ∀ l a w, l.size = ops.size → I l a w → (∀ i, i < ops.size → l.getD i true = true) → Q .normal a w) :
    ∀ (fuel : Nat) (l : Array Bool) (a : Act) (w : World), l.size = ops.size → l.toList.count false ≤ fuel → I l a w → wpAny P md ops Q fuel l a w := by
  intro fuel
  induction fuel with
  | zero =>
    intro l a w hs hc hI
    have hr : Region.ready md ops l = [] := by
      rw [List.eq_nil_iff_forall_not_mem]
      intro i hi
      have := count_set (mem_ready hi).2.1
      omega
    exact ⟨hr, hend l a w hs hI (all_of_ready2 ht hs hr)⟩
  | succ fuel ih =>
    intro l a w hs hc hI
    refine ⟨fun hr => hend l a w hs hI (all_of_ready2 ht hs hr), fun i hi => ?_⟩
    have hcs := count_set (mem_ready hi).2.1
    exact wpOp_mono (fun a' w' h' => ih _ a' w' (by simpa using hs) (by omega) h') (hstep l a w i hs hI hi)

theorem wp_region_inv2 {id : Nat} {l : List Oper} {a : Act} {w : World} {Q : Exit → Act → World → Prop} (I : Array Bool → Act → World → Prop) (hm : P.follows .mixedOrders = true) (ht : tidyOps2 .any l.toArray = true)
    (h0 : I (Array.replicate l.length false) a w.drew)
    (hstep : ∀ d a w i, d.size = l.length → I d a w → i ∈ Region.ready .any l.toArray d → wpOp P l.toArray Q i (I (d.setIfInBounds i true)) a w)
    (hend : ∀ d a w, d.size = l.length → I d a w → (∀ i, i < l.length → d.getD i true = true) → Q .normal a w) :
    (Code.region id l.toArray true).wp P Q a w := by
  refine wp_region_any hm ?_
  refine wpAny_inv2 I ht (fun d a w i hs => hstep d a w i (by simpa using hs)) (fun d a w hs hI hh => hend d a w (by simpa using hs) hI (by simpa using hh)) _ _ _ _ (by simp) ?_ ?_
  · simp
  · simpa using h0

end
end Go.Proofs.YtpmnpnlfgfleeaaDoor
