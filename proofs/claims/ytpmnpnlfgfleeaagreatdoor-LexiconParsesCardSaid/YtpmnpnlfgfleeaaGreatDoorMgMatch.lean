/- ostraconlaw05.known: the lexicon of the examples. Matches in memory: rows with an inner slice; lists of the call's own. -/
import Derived.Test.YtpmnpnlfgfleeaaGreatDoorMgCopied
import Derived.Test.YtpmnpnlfgfleeaaGreatDoorMgGloss
import Derived.Test.YtpmnpnlfgfleeaaGreatDoorMgMatchPlain
namespace Go.Proofs.YtpmnpnlfgfleeaaGreatDoor
open Go.RowKit
def Lx.known : Lx.Lexicon := ⟨[⟨⟨#[110, 102, 114]⟩, 1, ⟨#[103, 111, 111, 100]⟩, 2⟩, ⟨⟨#[110]⟩, 2, ⟨#[]⟩, 1⟩], [⟨1, ⟨#[116]⟩, ⟨#[102, 101, 109]⟩, 1⟩], [⟨⟨#[102]⟩, ⟨#[104, 105, 115]⟩, 1⟩, ⟨⟨#[114]⟩, ⟨#[116, 111]⟩, 0⟩]⟩

theorem rds_block {α : Type} {en : α → List Value} {size : Nat} {w : World} {g c : Nat} {cs : Array Value} {t : TypeId} {fr : Nat × Nat} {B : Nat} {xs : List α} (hu : ∀ x, (en x).length = size) (hh : w.heap[g]? = some (.cells cs t fr)) (hc : cs.toList = xs.flatMap en) (hB : g < B) (hl : xs.length ≤ c) (hm : c ≤ 9223372036854775807) :
    RdS w B size en (.slice (some ⟨g, 0, none⟩) xs.length c) xs := by
  refine ⟨some ⟨g, 0, none⟩, c, rfl, hl, hm, fun _ => ⟨g, 0, rfl, hB, fun i x hx j u hj => ?_⟩⟩
  have h1 := flat_at hu xs i x hx j u hj
  rw [← hc] at h1
  simp only [World.cell?, hh, Option.isSome_none, Bool.false_eq_true, if_false]
  rw [← h1]
  simp [Nat.zero_add]

theorem heap4 (w : World) (A B C D : Obj) : ((((w.alloc A).alloc B).alloc C).alloc D).heap[w.heap.size + 1]? = some B ∧ ((((w.alloc A).alloc B).alloc C).alloc D).heap[w.heap.size + 1 + 1]? = some C ∧
    ((((w.alloc A).alloc B).alloc C).alloc D).heap[w.heap.size + 1 + 1 + 1]? = some D ∧ ((((w.alloc A).alloc B).alloc C).alloc D).heap.size = w.heap.size + 4 := by
  have s1 : ∀ (W : World) (o : Obj), (W.alloc o).heap.size = W.heap.size + 1 := fun W o => by simp
  refine ⟨?_, ?_, ?_, by rw [s1, s1, s1, s1]⟩
  · rw [Below.heap_alloc _ _ _ (by rw [s1, s1, s1]; omega), Below.heap_alloc _ _ _ (by rw [s1, s1]; omega)]
    have := heap_alloc_new (w.alloc A) B
    rwa [s1] at this
  · rw [Below.heap_alloc _ _ _ (by rw [s1, s1, s1]; omega)]
    have := heap_alloc_new ((w.alloc A).alloc B) C
    rwa [s1, s1] at this
  · have := heap_alloc_new (((w.alloc A).alloc B).alloc C) D
    rwa [s1, s1, s1] at this
theorem below4 (w : World) (A B C D : Obj) : Below w.heap.size w ((((w.alloc A).alloc B).alloc C).alloc D) := by
  have s1 : ∀ (W : World) (o : Obj), (W.alloc o).heap.size = W.heap.size + 1 := fun W o => by simp
  exact ((((Below.refl _ _).alloc (Nat.le_refl _) _).alloc (by rw [s1]; omega) _).alloc (by rw [s1, s1]; omega) _).alloc (by rw [s1, s1, s1]; omega) _
theorem known_rd {w : World} {A : Obj} : RdL ((((w.alloc A).alloc (.cells #[.string ⟨#[110, 102, 114]⟩, .int .i64 1, .string ⟨#[103, 111, 111, 100]⟩, .int .i64 2, .string ⟨#[110]⟩, .int .i64 2, .string ⟨#[]⟩, .int .i64 1] 57)).alloc
      (.cells #[.int .i64 1, .string ⟨#[116]⟩, .string ⟨#[102, 101, 109]⟩, .int .i64 1] 55)).alloc (.cells #[.string ⟨#[102]⟩, .string ⟨#[104, 105, 115]⟩, .int .i64 1, .string ⟨#[114]⟩, .string ⟨#[116, 111]⟩, .int .i64 0] 65)) (w.heap.size + 4)
    (.agg #[.slice (some ⟨w.heap.size + 1, 0, none⟩) 2 2, .slice (some ⟨w.heap.size + 1 + 1, 0, none⟩) 1 1, .slice (some ⟨w.heap.size + 1 + 1 + 1, 0, none⟩) 2 2]) Lx.known := by
  refine ⟨⟨_, _, _, rfl, ?_, ?_, ?_⟩, ?_, ?_, ?_⟩
  · exact rds_block (xs := Lx.known.entries) len_entry (heap4 _ _ _ _ _).1 rfl (by omega) (by decide) (by decide)
  · exact rds_block (xs := Lx.known.endings) len_ending (heap4 _ _ _ _ _).2.1 rfl (by omega) (by decide) (by decide)
  · exact rds_block (xs := Lx.known.clitics) len_clitic (heap4 _ _ _ _ _).2.2.1 rfl (by omega) (by decide) (by decide)
  · intro e he; simp [Lx.known] at he; rcases he with rfl | rfl <;> exact ⟨by decide, by decide⟩
  · intro e he; simp [Lx.known] at he; subst he; exact ⟨by decide, by decide⟩
  · intro e he; simp [Lx.known] at he; rcases he with rfl | rfl <;> exact ⟨by decide, by decide⟩

set_option maxRecDepth 100000 in
theorem known_any (w : World) : Calls Tryz.prog 27 #[] w (fun e w' => ∃ v, e = .returned v ∧ RdL w' w'.heap.size v Lx.known ∧ Below w.heap.size w w') := by
  go_enter Tryz.func27, Tryz.ntmps27
  go_wp2_with fail
  refine bodyPost_ret (v := .agg #[.slice (some ⟨w.heap.size + 1, 0, none⟩) 2 2, .slice (some ⟨w.heap.size + 1 + 1, 0, none⟩) 1 1, .slice (some ⟨w.heap.size + 1 + 1 + 1, 0, none⟩) 2 2]) (by simp [results, Tryz.results27, go_sem]) rfl ⟨_, rfl, ?_, below4 _ _ _ _ _⟩
  rw [(heap4 _ _ _ _ _).2.2.2]
  exact known_rd
end Go.Proofs.YtpmnpnlfgfleeaaGreatDoor
namespace Go.Proofs.YtpmnpnlfgfleeaaGreatDoor
open Go.RowKit

/-- As RdS, the block within 'ok'. -/
def RdX {α : Type} (w : World) (ok : Nat → Prop) (size : Nat) (enc : α → List Value) (v : Value) (xs : List α) : Prop :=
  ∃ A c, v = .slice A xs.length c ∧ xs.length ≤ c ∧ c ≤ 9223372036854775807 ∧
    (0 < xs.length → ∃ b off, A = some ⟨b, off, none⟩ ∧ ok b ∧ ∀ i x, xs[i]? = some x → ∀ j u, (enc x)[j]? = some u → w.cell? ⟨b, off + i * size + j, none⟩ = some u)
theorem RdX.of {α : Type} {w : World} {B size : Nat} {enc : α → List Value} {v : Value} {xs : List α} (h : RdS w B size enc v xs) : RdX w (· < B) size enc v xs := h
theorem RdX.to {α : Type} {w : World} {B size : Nat} {enc : α → List Value} {v : Value} {xs : List α} {ok : Nat → Prop} (h : RdX w ok size enc v xs) (hB : ∀ b, ok b → b < B) : RdS w B size enc v xs := by
  obtain ⟨A, c, hv, hl, hc, hh⟩ := h
  refine ⟨A, c, hv, hl, hc, fun h0 => ?_⟩
  obtain ⟨b, off, hA, hb, hcell⟩ := hh h0
  exact ⟨b, off, hA, hB b hb, hcell⟩
theorem RdX.keep {α : Type} {w w' : World} {size : Nat} {enc : α → List Value} {v : Value} {xs : List α} {ok ok' : Nat → Prop} (h : RdX w ok size enc v xs) (hk : ∀ b, ok b → ok' b ∧ w'.heap[b]? = w.heap[b]?) : RdX w' ok' size enc v xs := by
  obtain ⟨A, c, hv, hl, hc, hh⟩ := h
  refine ⟨A, c, hv, hl, hc, fun h0 => ?_⟩
  obtain ⟨b, off, hA, hb, hcell⟩ := hh h0
  exact ⟨b, off, hA, (hk b hb).1, fun i x hx j u hu => (World.cell?_of_block (a := ⟨b, off + i * size + j, none⟩) (hk b hb).2).trans (hcell i x hx j u hu)⟩

/-- The cells of rows of matches. -/
def mrows (w : World) (ok : Nat → Prop) : List Value → List Lx.Match → Prop
  | [], [] => True
  | a :: b :: c :: d :: r, m :: ms => a = .int .i64 m.entry ∧ b = .int .i64 m.ending ∧ RdX w ok 1 encInt c m.clitics ∧ d = .int .i64 m.long ∧ mrows w ok r ms
  | _, _ => False
theorem mrows_keep {w w' : World} {ok ok' : Nat → Prop} (hk : ∀ b, ok b → ok' b ∧ w'.heap[b]? = w.heap[b]?) : ∀ (cs : List Value) (ms : List Lx.Match), mrows w ok cs ms → mrows w' ok' cs ms
  | [], [], _ => trivial
  | a :: b :: c :: d :: r, m :: ms, ⟨h1, h2, h3, h4, h5⟩ => ⟨h1, h2, h3.keep hk, h4, mrows_keep hk r ms h5⟩
  | [], _ :: _, h => h
  | [_], _, h => by cases ‹List Lx.Match› <;> exact h
  | [_, _], _, h => by cases ‹List Lx.Match› <;> exact h
  | [_, _, _], _, h => by cases ‹List Lx.Match› <;> exact h
  | _ :: _ :: _ :: _ :: _, [], h => h
theorem mrows_snoc {w : World} {ok : Nat → Prop} {a b c d : Value} {m : Lx.Match} (h : mrows w ok [a, b, c, d] [m]) : ∀ (cs : List Value) (ms : List Lx.Match), mrows w ok cs ms → mrows w ok (cs ++ [a, b, c, d]) (ms ++ [m])
  | [], [], _ => h
  | _ :: _ :: _ :: _ :: r, _ :: ms, ⟨h1, h2, h3, h4, h5⟩ => ⟨h1, h2, h3, h4, mrows_snoc h r ms h5⟩
  | [], _ :: _, h => h.elim
  | [_], ms, h => by cases ms <;> exact h.elim
  | [_, _], ms, h => by cases ms <;> exact h.elim
  | [_, _, _], ms, h => by cases ms <;> exact h.elim
  | _ :: _ :: _ :: _ :: _, [], h => h.elim
theorem mrows_at {w : World} {ok : Nat → Prop} : ∀ (cs : List Value) (ms : List Lx.Match), mrows w ok cs ms → ∀ (i : Nat) (m : Lx.Match), ms[i]? = some m →
    cs[i * 4]? = some (.int .i64 m.entry) ∧ cs[i * 4 + 1]? = some (.int .i64 m.ending) ∧ (∃ c, cs[i * 4 + 2]? = some c ∧ RdX w ok 1 encInt c m.clitics) ∧ cs[i * 4 + 3]? = some (.int .i64 m.long)
  | [], [], _, i, m, h => by simp at h
  | a :: b :: c :: d :: r, m0 :: ms, ⟨h1, h2, h3, h4, h5⟩, i, m, h => by
    cases i with
    | zero =>
      simp at h
      subst h
      exact ⟨by simp [h1], by simp [h2], ⟨c, by simp, h3⟩, by simp [h4]⟩
    | succ i =>
      simp at h
      have := mrows_at r ms h5 i m h
      simpa [Nat.succ_mul] using this
  | [], _ :: _, h, _, _, _ => h.elim
  | [_], ms, h, _, _, _ => by cases ms <;> exact h.elim
  | [_, _], ms, h, _, _, _ => by cases ms <;> exact h.elim
  | [_, _, _], ms, h, _, _, _ => by cases ms <;> exact h.elim
  | _ :: _ :: _ :: _ :: _, [], h, _, _, _ => h.elim

/-- A list of matches of the call's own. -/
def OwnM (w : World) (base : Nat) (v : Value) (ms : List Lx.Match) : Prop :=
  ∃ cells, w.ownsRow base 87 4 v ms.length cells ∧ mrows w (fun b => b < w.heap.size ∧ v.ownBlock ≠ some b ∧ base ≤ b) cells ms
theorem OwnM.nil (w : World) (base : Nat) : OwnM w base (.slice none 0 0) [] := ⟨[], World.ownsRow_nil w base _ _, trivial⟩
theorem OwnM.kept {w w' : World} {base : Nat} {v : Value} {ms : List Lx.Match} (h : OwnM w base v ms) (hb : Below w.heap.size w w') : OwnM w' base v ms := by
  obtain ⟨cells, h1, h2⟩ := h
  refine ⟨cells, h1.kept (row := none) ⟨hb.os, hb.tape, hb.output, hb.size, fun k hk _ => hb.block k hk⟩ (by
    rcases h1.2 with ⟨rfl, _⟩ | ⟨g, cap, cur, rfl, _⟩
    · exact .inl rfl
    · exact .inr (by simp [Value.ownBlock])), mrows_keep (fun b hbk => ⟨⟨Nat.lt_of_lt_of_le hbk.1 hb.size, hbk.2⟩, hb.block b hbk.1⟩) _ _ h2⟩
end Go.Proofs.YtpmnpnlfgfleeaaGreatDoor
