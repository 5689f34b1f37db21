/- slices.Clone at []int, for every slice that reads as a list. -/
import Derived.Test.YtpmfjndbckblfaaDoorStem
namespace Go.Proofs.YtpmfjndbckblfaaDoor
open Go.RowKit

theorem flat_int (cs : List Int) : cs.flatMap encInt = cs.map (Value.int .i64) := by
  induction cs with
  | nil => rfl
  | cons c r ih => rw [List.flatMap_cons, List.map_cons, ih]; rfl

theorem cloneInt_any (v : Value) (cs : List Int) (w : World) (B : Nat) (h : RdS w B 1 encInt v cs) (hlen : cs.length ≤ 1000000) :
    Calls Tryd.prog 69 #[v] w (fun e w' => ∃ v', e = .returned v' ∧ w'.ownsRow w.heap.size 3 1 v' cs.length (cs.flatMap encInt) ∧ Below w.heap.size w w') := by
  obtain ⟨A, c, rfl, hl, hc, hh⟩ := h
  cases A with
  | none =>
    have h0 : cs = [] := by
      cases cs with
      | nil => rfl
      | cons y r =>
        obtain ⟨b, off, h, _⟩ := hh (by simp)
        cases h
    subst h0
    refine (Tryd.slices_Clone_int_nil _ _ w).mono ?_
    rintro e w' ⟨rfl, rfl⟩
    exact ⟨_, rfl, World.ownsRow_nil _ _ _ _, Below.refl _ _⟩
  | some a =>
    by_cases h0 : cs.length = 0
    · have h0' : cs = [] := List.eq_nil_of_length_eq_zero h0
      subst h0'
      refine (Tryd.slices_Clone_int_zero _ _ w).mono ?_
      rintro e w' ⟨v', rfl, hown, _, hb⟩
      exact ⟨_, rfl, hown, hb⟩
    · obtain ⟨b, off, hA, _, hcell⟩ := hh (by omega)
      cases hA
      refine (Tryd.slices_Clone_int b off cs.length c cs w (Nat.le_refl _) (by omega) (fun j hj => ?_)).mono ?_
      · have := hcell j cs[j] (List.getElem?_eq_getElem hj) 0 _ rfl
        rw [List.getD_eq_getElem?_getD, List.getElem?_eq_getElem hj]
        simpa using this
      · rintro e w' ⟨v', rfl, hown, _, hb⟩
        refine ⟨_, rfl, ?_, hb⟩
        rw [flat_int]
        simpa using hown
end Go.Proofs.YtpmfjndbckblfaaDoor
