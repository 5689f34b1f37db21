/- ostraconlaw05.known: the lexicon of the examples. -/
import Derived.Test.YtpmnpnlfgfleeaaDoorMgCopied
import Derived.Test.YtpmnpnlfgfleeaaDoorMgGloss
namespace Go.Proofs.YtpmnpnlfgfleeaaDoor
open Go.RowKit
def Lx.known : Lx.Lexicon := ⟨[⟨⟨#[110, 102, 114]⟩, 1, ⟨#[103, 111, 111, 100]⟩, 2⟩, ⟨⟨#[110]⟩, 2, ⟨#[]⟩, 1⟩], [⟨1, ⟨#[116]⟩, ⟨#[102, 101, 109]⟩, 1⟩], [⟨⟨#[102]⟩, ⟨#[104, 105, 115]⟩, 1⟩, ⟨⟨#[114]⟩, ⟨#[116, 111]⟩, 0⟩]⟩

theorem rds_block {α : Type} {en : α → List Value} {size : Nat} {w : World} {g c : Nat} {cs : Array Value} {t : TypeId} {fr : Nat × Nat} {B : Nat} {xs : List α} (hu : ∀ x, (en x).length = size) (hh : w.heap[g]? = some (.cells cs t fr)) (hc : cs.toList = xs.flatMap en) (hB : g < B) (hl : xs.length ≤ c) (hm : c ≤ 9223372036854775807) :
    RdS w B size en (.slice (some ⟨g, 0, none⟩) xs.length c) xs := by
  refine ⟨some ⟨g, 0, none⟩, c, rfl, hl, hm, fun _ => ⟨g, 0, rfl, hB, fun i x hx j u hj => ?_⟩⟩
  have h1 := flat_at hu xs i x hx j u hj
  rw [← hc] at h1
  simp only [World.cell?, hh, Option.isSome_none, Bool.false_eq_true, if_false]
  rw [← h1]
  simp [Nat.zero_add]

theorem heap4 (w : World) (A B C D : Obj) : ((((w.alloc A).alloc B).alloc C).alloc D).heap[w.heap.size + 1]? = some B ∧ ((((w.alloc A).alloc B).alloc C).alloc D).heap[w.heap.size + 1 + 1]? = some C ∧
    ((((w.alloc A).alloc B).alloc C).alloc D).heap[w.heap.size + 1 + 1 + 1]? = some D ∧ ((((w.alloc A).alloc B).alloc C).alloc D).heap.size = w.heap.size + 4 := by
  have s1 : ∀ (W : World) (o : Obj), (W.alloc o).heap.size = W.heap.size + 1 := fun W o => by simp
  refine ⟨?_, ?_, ?_, by rw [s1, s1, s1, s1]⟩
  · rw [Below.heap_alloc _ _ _ (by rw [s1, s1, s1]; omega), Below.heap_alloc _ _ _ (by rw [s1, s1]; omega)]
    have := heap_alloc_new (w.alloc A) B
    rwa [s1] at this
  · rw [Below.heap_alloc _ _ _ (by rw [s1, s1, s1]; omega)]
    have := heap_alloc_new ((w.alloc A).alloc B) C
    rwa [s1, s1] at this
  · have := heap_alloc_new (((w.alloc A).alloc B).alloc C) D
    rwa [s1, s1, s1] at this
theorem below4 (w : World) (A B C D : Obj) : Below w.heap.size w ((((w.alloc A).alloc B).alloc C).alloc D) := by
  have s1 : ∀ (W : World) (o : Obj), (W.alloc o).heap.size = W.heap.size + 1 := fun W o => by simp
  exact ((((Below.refl _ _).alloc (Nat.le_refl _) _).alloc (by rw [s1]; omega) _).alloc (by rw [s1, s1]; omega) _).alloc (by rw [s1, s1, s1]; omega) _
theorem known_rd {w : World} {A : Obj} : RdL ((((w.alloc A).alloc (.cells #[.string ⟨#[110, 102, 114]⟩, .int .i64 1, .string ⟨#[103, 111, 111, 100]⟩, .int .i64 2, .string ⟨#[110]⟩, .int .i64 2, .string ⟨#[]⟩, .int .i64 1] 39)).alloc
      (.cells #[.int .i64 1, .string ⟨#[116]⟩, .string ⟨#[102, 101, 109]⟩, .int .i64 1] 41)).alloc (.cells #[.string ⟨#[102]⟩, .string ⟨#[104, 105, 115]⟩, .int .i64 1, .string ⟨#[114]⟩, .string ⟨#[116, 111]⟩, .int .i64 0] 43)) (w.heap.size + 4)
    (.agg #[.slice (some ⟨w.heap.size + 1, 0, none⟩) 2 2, .slice (some ⟨w.heap.size + 1 + 1, 0, none⟩) 1 1, .slice (some ⟨w.heap.size + 1 + 1 + 1, 0, none⟩) 2 2]) Lx.known := by
  refine ⟨⟨_, _, _, rfl, ?_, ?_, ?_⟩, ?_, ?_, ?_⟩
  · exact rds_block (xs := Lx.known.entries) len_entry (heap4 _ _ _ _ _).1 rfl (by omega) (by decide) (by decide)
  · exact rds_block (xs := Lx.known.endings) len_ending (heap4 _ _ _ _ _).2.1 rfl (by omega) (by decide) (by decide)
  · exact rds_block (xs := Lx.known.clitics) len_clitic (heap4 _ _ _ _ _).2.2.1 rfl (by omega) (by decide) (by decide)
  · intro e he; simp [Lx.known] at he; rcases he with rfl | rfl <;> exact ⟨by decide, by decide⟩
  · intro e he; simp [Lx.known] at he; subst he; exact ⟨by decide, by decide⟩
  · intro e he; simp [Lx.known] at he; rcases he with rfl | rfl <;> exact ⟨by decide, by decide⟩

set_option maxRecDepth 100000 in
theorem known_any (w : World) : Calls Tryd.prog 13 #[] w (fun e w' => ∃ v, e = .returned v ∧ RdL w' w'.heap.size v Lx.known ∧ Below w.heap.size w w') := by
  go_enter Tryd.func13, Tryd.ntmps13
  go_wp2_with fail
  refine bodyPost_ret (v := .agg #[.slice (some ⟨w.heap.size + 1, 0, none⟩) 2 2, .slice (some ⟨w.heap.size + 1 + 1, 0, none⟩) 1 1, .slice (some ⟨w.heap.size + 1 + 1 + 1, 0, none⟩) 2 2]) (by simp [results, Tryd.results13, go_sem]) rfl ⟨_, rfl, ?_, below4 _ _ _ _ _⟩
  rw [(heap4 _ _ _ _ _).2.2.2]
  exact known_rd
end Go.Proofs.YtpmnpnlfgfleeaaDoor
