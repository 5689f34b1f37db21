/- A region that draws its order: one invariant over 'what has been done' serves every order. -/
import Derived.WalkKit
namespace Go.Proofs.YtpmnpnlfgfleeaaGreatDoor
open Go Go.RowKit

section
variable {P : Program} {ops : Array Oper} {Q : Exit → Act → World → Prop} {md : Region.Mode}

theorem count_set {l : Array Bool} {i : Nat} (h : l.getD i true = false) : (l.setIfInBounds i true).toList.count false + 1 = l.toList.count false := by
  have hi : i < l.size := by
    rcases Nat.lt_or_ge i l.size with h1 | h1
    · exact h1
    · simp [Array.getD, Nat.not_lt.2 h1] at h
  have hli : l.toList[i]'(by simpa using hi) = false := by
    simp [Array.getD, hi] at h
    simpa using h
  have hp : 0 < l.toList.count false := List.count_pos_iff.2 (by have := List.getElem_mem (l := l.toList) (n := i) (by simpa using hi); rwa [hli] at this)
  rw [Array.toList_setIfInBounds, List.count_set (by simpa using hi), hli]
  simp only [beq_self_eq_true, if_true, show (true == false) = false from rfl, Bool.false_eq_true, if_false]
  omega

theorem mem_ready {l : Array Bool} {i : Nat} (h : i ∈ Region.ready md ops l) : i < ops.size ∧ l.getD i true = false ∧ ∀ o, ops[i]? = some o → ∀ e ∈ o.after, Region.binds md e = true → l.getD e.on false = true := by
  unfold Region.ready at h
  rw [List.mem_filter, List.mem_range] at h
  obtain ⟨h1, h2⟩ := h
  simp only [Bool.and_eq_true, Bool.not_eq_true'] at h2
  refine ⟨h1, h2.1, fun o ho e he hb => ?_⟩
  have h3 := h2.2
  rw [ho] at h3
  simp only [Option.map_some, Option.getD_some] at h3
  have h4 := Array.all_eq_true'.1 h3 e he
  rw [hb] at h4
  simpa using h4

/-- every edge goes to an operation that stands before -/
def tidyOps (ops : Array Oper) : Bool := (List.range ops.size).all fun i => ((ops[i]?).map fun o => o.after.all fun e => decide (e.on < i)).getD true

theorem all_of_ready {l : Array Bool} (ht : tidyOps ops = true) (hs : l.size = ops.size) (h : Region.ready md ops l = []) : ∀ i, i < ops.size → l.getD i true = true := by
  intro i
  induction i using Nat.strongRecOn with
  | _ i ih =>
    intro hi
    by_cases hd : l.getD i true = true
    · exact hd
    · exfalso
      have hm : i ∈ Region.ready md ops l := by
        unfold Region.ready
        rw [List.mem_filter, List.mem_range]
        refine ⟨hi, ?_⟩
        have ho : ops[i]? = some ops[i] := Array.getElem?_eq_getElem hi
        have hd' : l.getD i true = false := by simpa using hd
        rw [hd', ho]
        show (true && _) = true
        rw [Bool.true_and, Option.map_some, Option.getD_some, Array.all_eq_true']
        intro e he
        have hlt : e.on < i := by
          have h1 := List.all_eq_true.1 ht i (List.mem_range.2 hi)
          rw [ho] at h1
          simp only [Option.map_some, Option.getD_some] at h1
          simpa using Array.all_eq_true'.1 h1 e he
        have := ih e.on hlt (by omega)
        have h2 : l.getD e.on false = true := by
          simp [Array.getD, hs, (by omega : e.on < ops.size)] at this ⊢
          exact this
        simp [h2]
      rw [h] at hm
      cases hm

theorem wpAny_inv (I : Array Bool → Act → World → Prop) (ht : tidyOps ops = true)
    (hstep : ∀ l a w i, l.size = ops.size → I l a w → i ∈ Region.ready md ops l → wpOp P ops Q i (I (l.setIfInBounds i true)) a w)
    (hend : ∀ l a w, l.size = ops.size → I l a w → (∀ i, i < ops.size → l.getD i true = true) → Q .normal a w) :
    ∀ (fuel : Nat) (l : Array Bool) (a : Act) (w : World), l.size = ops.size → l.toList.count false ≤ fuel → I l a w → wpAny P md ops Q fuel l a w := by
  intro fuel
  induction fuel with
  | zero =>
    intro l a w hs hc hI
    have hr : Region.ready md ops l = [] := by
      rw [List.eq_nil_iff_forall_not_mem]
      intro i hi
      have := count_set (mem_ready hi).2.1
      omega
    exact ⟨hr, hend l a w hs hI (all_of_ready ht hs hr)⟩
  | succ fuel ih =>
    intro l a w hs hc hI
    refine ⟨fun hr => hend l a w hs hI (all_of_ready ht hs hr), fun i hi => ?_⟩
    have hcs := count_set (mem_ready hi).2.1
    exact wpOp_mono (fun a' w' h' => ih _ a' w' (by simpa using hs) (by omega) h') (hstep l a w i hs hI hi)

theorem wp_region_inv {id : Nat} {l : List Oper} {a : Act} {w : World} {Q : Exit → Act → World → Prop} (I : Array Bool → Act → World → Prop) (hm : P.follows .mixedOrders = true) (ht : tidyOps l.toArray = true)
    (h0 : I (Array.replicate l.length false) a w.drew)
    (hstep : ∀ d a w i, d.size = l.length → I d a w → i ∈ Region.ready .any l.toArray d → wpOp P l.toArray Q i (I (d.setIfInBounds i true)) a w)
    (hend : ∀ d a w, d.size = l.length → I d a w → (∀ i, i < l.length → d.getD i true = true) → Q .normal a w) :
    (Code.region id l.toArray true).wp P Q a w := by
  refine wp_region_any hm ?_
  refine wpAny_inv I ht (fun d a w i hs => hstep d a w i (by simpa using hs)) (fun d a w hs hI hh => hend d a w (by simpa using hs) hI (by simpa using hh)) _ _ _ _ (by simp) ?_ ?_
  · simp
  · simpa using h0

theorem wpOp_plain {i : Nat} {o : Oper} {K : Act → World → Prop} {a : Act} {w : World} (ho : ops[i]? = some o) (hg : o.guard = none) (h : o.wp P a w K Q) : wpOp P ops Q i K a w := by
  unfold wpOp
  rw [ho]
  simp only [Region.wanted, hg, if_true]
  exact .inl h
theorem wpOp_guard {i : Nat} {o : Oper} {K : Act → World → Prop} {a : Act} {w : World} (ho : ops[i]? = some o) (hg : Region.wanted o (yielded ops a.tmps) = true) (h : o.wp P a w K Q) : wpOp P ops Q i K a w := by
  unfold wpOp
  rw [ho]
  simp only [hg, if_true]
  exact .inl h
theorem wanted_of {t : Array Value} {o : Oper} {g d : Nat} {b : Bool} (hg : o.guard = some (g, b)) (hx : (ops[g]?).bind (·.dst) = some d) (h : t[d]? = some (.bool b)) : Region.wanted o (yielded ops t) = true := by
  simp [Region.wanted, hg, yielded, hx, h]
theorem set_same {t : Array Value} {d : Nat} {v : Value} (h : d < t.size) : (t.setIfInBounds d v)[d]? = some v := by simp [h]
theorem set_other {t : Array Value} {d k : Nat} {v : Value} (h : k ≠ d) : (t.setIfInBounds d v)[k]? = t[k]? := by
  simp [Ne.symm h]
theorem getD_set {l : Array Bool} {i j : Nat} (hi : i < l.size) : (l.setIfInBounds i true).getD j false = true ↔ j = i ∨ l.getD j false = true := by
  by_cases h : j = i
  · subst h; simp [Array.getD, hi]
  · have : (l.setIfInBounds i true).getD j false = l.getD j false := by
      by_cases hj : j < l.size
      · simp [Array.getD, hj, Ne.symm h]
      · simp [Array.getD, hj]
    rw [this]
    simp [h]
end
end Go.Proofs.YtpmnpnlfgfleeaaGreatDoor
