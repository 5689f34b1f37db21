/- As XRegion2, the frame handed to the relation. Short words for the steps of a region. -/
import Derived.Test.YtpmnpnlfgfleeaaDoorMgRegion2
import Derived.Test.YtpmnpnlfgfleeaaDoorMgCopied
namespace Go.Proofs.YtpmnpnlfgfleeaaDoor
open Go Go.RowKit
theorem wp_region_inv2T {P : Program} {id : Nat} {l : List Oper} {t : Array Value} {df : List Deferred} {w : World} {Q : Exit → Act → World → Prop} (I : Array Value → Array Bool → Act → World → Prop) (hm : P.follows .mixedOrders = true) (ht : tidyOps2 .any l.toArray = true)
    (h0 : I t (Array.replicate l.length false) ⟨t, df⟩ w.drew)
    (hstep : ∀ t0 d a w i, d.size = l.length → I t0 d a w → i ∈ Region.ready .any l.toArray d → wpOp P l.toArray Q i (I t0 (d.setIfInBounds i true)) a w)
    (hend : ∀ d a w, d.size = l.length → I t d a w → (∀ i, i < l.length → d.getD i true = true) → Q .normal a w) :
    (Code.region id l.toArray true).wp P Q ⟨t, df⟩ w := wp_region_inv2 (I t) hm ht h0 (hstep t) hend
end Go.Proofs.YtpmnpnlfgfleeaaDoor
namespace Go.Proofs.YtpmnpnlfgfleeaaDoor
open Go Go.RowKit
theorem rs {t : Array Value} {k m : Nat} {u v : Value} (h : t[k]? = some v) (f : k ≠ m := by decide) : (t.setIfInBounds m u)[k]? = some v := (set_other f).trans h
theorem rp {d : Array Bool} {i j : Nat} {t : Array Value} {k m : Nat} {u v : Value} (hi : i < d.size) (h : dn d j → t[k]? = some v) (e : j ≠ i := by decide) (f : k ≠ m := by decide) : dn (d.setIfInBounds i true) j → (t.setIfInBounds m u)[k]? = some v :=
  fun hj => (set_other f).trans (h (dn_of hi hj e))
theorem rn {d : Array Bool} {i j : Nat} {P : Prop} (hi : i < d.size) (h : dn d j → P) (e : j ≠ i := by decide) : dn (d.setIfInBounds i true) j → P := fun hj => h (dn_of hi hj e)
theorem rc {d : Array Bool} {i j : Nat} {t : Array Value} {k m : Nat} {u : Value} {R R' : Value → Prop} (hi : i < d.size) (h : dn d j → ∃ v, t[k]? = some v ∧ R v) (g : ∀ v, R v → R' v) (e : j ≠ i := by decide) (f : k ≠ m := by decide) :
    dn (d.setIfInBounds i true) j → ∃ v, (t.setIfInBounds m u)[k]? = some v ∧ R' v := fun hj => by
  obtain ⟨v, h1, h2⟩ := h (dn_of hi hj e)
  exact ⟨v, (set_other f).trans h1, g v h2⟩
theorem rcn {d : Array Bool} {i j : Nat} {t : Array Value} {k : Nat} {R R' : Value → Prop} (hi : i < d.size) (h : dn d j → ∃ v, t[k]? = some v ∧ R v) (g : ∀ v, R v → R' v) (e : j ≠ i := by decide) :
    dn (d.setIfInBounds i true) j → ∃ v, t[k]? = some v ∧ R' v := fun hj => by
  obtain ⟨v, h1, h2⟩ := h (dn_of hi hj e)
  exact ⟨v, h1, g v h2⟩
theorem rk {t T0 : Array Value} {l : List Nat} {m : Nat} {u : Value} (h : ∀ i, i ∉ l → t[i]? = T0[i]?) (hm : m ∈ l := by decide) : ∀ i, i ∉ l → (t.setIfInBounds m u)[i]? = T0[i]? :=
  fun i hi => (set_other (fun e => hi (by rw [e]; exact hm))).trans (h i hi)
/-- these slots hold these values -/
def Held (t : Array Value) : List (Nat × Value) → Prop
  | [] => True
  | p :: r => t[p.1]? = some p.2 ∧ Held t r
theorem held_set : ∀ (l : List (Nat × Value)) (t A : Array Value), A.size = t.size → (∀ i, i ∉ l.map (·.1) → A[i]? = t[i]?) → Held t l → l.foldl (fun a p => a.setIfInBounds p.1 p.2) A = t
  | [], t, A, _, hk, _ => by
    refine Array.ext_getElem? fun i => ?_
    exact hk i (by simp)
  | p :: r, t, A, hs, hk, hw => by
    rw [List.foldl_cons]
    refine held_set r t _ (by simpa using hs) (fun i hi => ?_) hw.2
    by_cases e : i = p.1
    · subst e
      have hlt := (Array.getElem?_eq_some_iff.1 hw.1).1
      rw [set_same (by omega), hw.1]
    · rw [set_other e]
      exact hk i (by simp only [List.map_cons, List.mem_cons, not_or]; exact ⟨e, hi⟩)
/-- the frame behind a region -/
theorem frame_eq {t T0 : Array Value} {wl : List Nat} (l : List (Nat × Value)) (hs : t.size = T0.size) (hk : ∀ i, i ∉ wl → t[i]? = T0[i]?) (hm : wl.all (fun i => l.any fun p => p.1 == i) = true) (hw : Held t l) : t = l.foldl (fun a p => a.setIfInBounds p.1 p.2) T0 := by
  refine (held_set l t T0 hs.symm (fun i hi => (hk i (fun h => hi ?_)).symm) hw).symm
  have := List.all_eq_true.1 hm i h
  rw [List.any_eq_true] at this
  obtain ⟨p, hp, e⟩ := this
  have e' : p.1 = i := by simpa using e
  rw [← e']
  exact List.mem_map_of_mem hp
end Go.Proofs.YtpmnpnlfgfleeaaDoor
