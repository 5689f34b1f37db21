/- Boxes of eight cells; isLeaf. -/
import Derived.Test.YtenmkbpdkfhbjaaRbTxFam
import Derived.StillTailTactics
namespace Go.Proofs.Ytenmkbpdkfhbjaa
open Go Go.RowKit

def RetE (v : Int) (w : World) (e : Ending) (w' : World) : Prop := e = .returned (.int .i64 v) ∧ Below w.heap.size w w'
theorem isLeaf_any (n : Tx.Node) (w : World) : Calls Try.prog 32 #[.agg (encN n).toArray] w (RetFam (Tx.leafB n.kind) w) := by
  obtain ⟨z1, hz1⟩ : ∃ z, (n.kind == 1) = z := ⟨_, rfl⟩
  obtain ⟨z2, hz2⟩ : ∃ z, (n.kind == 6) = z := ⟨_, rfl⟩
  have HV : Hid (Tx.leafB n.kind = (z1 || z2)) := Lib.hid (by rw [← hz1, ← hz2]; rfl)
  have HB : Hid (∀ o, Below w.heap.size w (w.alloc o)) := Lib.hid fun o => (Below.refl _ _).alloc (Nat.le_refl _) _
  unfold encN encNz
  cases z1 <;> cases z2 <;> (go_enter Try.func32, Try.ntmps32; go_wp2_with fail; go_ret; exact ⟨by rw [HV.out]; rfl, HB.out _⟩)
theorem alloc3 (w : World) (o0 o1 o2 : Obj) (W : World) (h : W = ((w.alloc o0).alloc o1).alloc o2) :
    W.heap.size = w.heap.size + 3 ∧ Below w.heap.size w W ∧ W.heap[w.heap.size]? = some o0 ∧ W.heap[w.heap.size + 1]? = some o1 ∧ W.heap[w.heap.size + 2]? = some o2 := by
  obtain ⟨W1, h1⟩ : ∃ X, X = (w.alloc o0).alloc o1 := ⟨_, rfl⟩
  have s1 : W1.heap.size = w.heap.size + 2 := by rw [h1]; simp
  have k2 : ∀ j, j < W1.heap.size → W.heap[j]? = W1.heap[j]? := fun j hj => by rw [h, ← h1]; exact Below.heap_alloc _ _ _ hj
  refine ⟨by rw [h]; simp, by rw [h]; exact (((Below.refl _ _).alloc (Nat.le_refl _) _).alloc (by simp) _).alloc (by simp; omega) _, (k2 _ (by omega)).trans (by rw [h1]; exact heap_alloc2_old _ _ _), (k2 _ (by omega)).trans (by rw [h1]; exact heap_alloc2_new _ _ _), ?_⟩
  rw [h, ← h1, ← s1]
  exact heap_alloc_new _ _
section
variable {W : World} {Z : Nat} {T : TypeId} {c0 c1 c2 c3 c4 c5 c6 c7 : Value}
theorem box8_cells (h : W.heap[Z]? = some (.cells #[c0, c1, c2, c3, c4, c5, c6, c7] T (0, 0))) :
    W.cell? ⟨Z, 0, none⟩ = some c0 ∧ W.cell? ⟨Z, 1, none⟩ = some c1 ∧ W.cell? ⟨Z, 2, none⟩ = some c2 ∧ W.cell? ⟨Z, 3, none⟩ = some c3 ∧ W.cell? ⟨Z, 4, none⟩ = some c4 ∧ W.cell? ⟨Z, 5, none⟩ = some c5 ∧ W.cell? ⟨Z, 6, none⟩ = some c6 ∧ W.cell? ⟨Z, 7, none⟩ = some c7 := by
  simp [World.cell?, h]
end
theorem box8_free {W : World} {Z : Nat} {T : TypeId} {cs : Array Value} (h : W.heap[Z]? = some (.cells cs T (0, 0))) : W.frozen? ⟨Z, 2, none⟩ = false ∧ W.frozen? ⟨Z, 3, none⟩ = false ∧ W.frozen? ⟨Z, 4, none⟩ = false ∧ W.frozen? ⟨Z, 5, none⟩ = false ∧ W.frozen? ⟨Z, 6, none⟩ = false ∧ W.frozen? ⟨Z, 7, none⟩ = false := by
  simp [World.frozen?, h]
theorem own_bounds {l : Sg.SList} {ns : List Tx.Node} {j : Nat} (h : Tx.ownAt l ns j = 0) : 0 ≤ (Tx.nd ns j).depth ∧ (Tx.nd ns j).depth ≤ 4 := by
  unfold Tx.ownAt Tx.ownV at h
  by_cases h1 : (Tx.nd ns j).kind < 1 ∨ 7 < (Tx.nd ns j).kind
  · rw [if_pos h1] at h
    exact absurd h (by decide)
  · rw [if_neg h1] at h
    by_cases h2 : (Tx.nd ns j).depth < 0 ∨ 4 < (Tx.nd ns j).depth ∨ Tx.most (if j = 0 then none else some (Tx.nd ns (j - 1))) < (Tx.nd ns j).depth
    · rw [if_pos h2] at h
      exact absurd h (by decide)
    · omega
end Go.Proofs.Ytenmkbpdkfhbjaa
