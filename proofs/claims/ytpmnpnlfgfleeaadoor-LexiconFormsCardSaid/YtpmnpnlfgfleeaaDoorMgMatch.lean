/- Matches in memory: rows with an inner slice; lists of the call's own. -/
import Derived.Test.YtpmnpnlfgfleeaaDoorMgCopied
import Derived.Test.YtpmnpnlfgfleeaaDoorMgKnown
import Derived.Test.YtpmnpnlfgfleeaaDoorMgMatchPlain
namespace Go.Proofs.YtpmnpnlfgfleeaaDoor
open Go.RowKit

/-- As RdS, the block within 'ok'. -/
def RdX {α : Type} (w : World) (ok : Nat → Prop) (size : Nat) (enc : α → List Value) (v : Value) (xs : List α) : Prop :=
  ∃ A c, v = .slice A xs.length c ∧ xs.length ≤ c ∧ c ≤ 9223372036854775807 ∧
    (0 < xs.length → ∃ b off, A = some ⟨b, off, none⟩ ∧ ok b ∧ ∀ i x, xs[i]? = some x → ∀ j u, (enc x)[j]? = some u → w.cell? ⟨b, off + i * size + j, none⟩ = some u)
theorem RdX.of {α : Type} {w : World} {B size : Nat} {enc : α → List Value} {v : Value} {xs : List α} (h : RdS w B size enc v xs) : RdX w (· < B) size enc v xs := h
theorem RdX.to {α : Type} {w : World} {B size : Nat} {enc : α → List Value} {v : Value} {xs : List α} {ok : Nat → Prop} (h : RdX w ok size enc v xs) (hB : ∀ b, ok b → b < B) : RdS w B size enc v xs := by
  obtain ⟨A, c, hv, hl, hc, hh⟩ := h
  refine ⟨A, c, hv, hl, hc, fun h0 => ?_⟩
  obtain ⟨b, off, hA, hb, hcell⟩ := hh h0
  exact ⟨b, off, hA, hB b hb, hcell⟩
theorem RdX.keep {α : Type} {w w' : World} {size : Nat} {enc : α → List Value} {v : Value} {xs : List α} {ok ok' : Nat → Prop} (h : RdX w ok size enc v xs) (hk : ∀ b, ok b → ok' b ∧ w'.heap[b]? = w.heap[b]?) : RdX w' ok' size enc v xs := by
  obtain ⟨A, c, hv, hl, hc, hh⟩ := h
  refine ⟨A, c, hv, hl, hc, fun h0 => ?_⟩
  obtain ⟨b, off, hA, hb, hcell⟩ := hh h0
  exact ⟨b, off, hA, (hk b hb).1, fun i x hx j u hu => (World.cell?_of_block (a := ⟨b, off + i * size + j, none⟩) (hk b hb).2).trans (hcell i x hx j u hu)⟩

/-- The cells of rows of matches. -/
def mrows (w : World) (ok : Nat → Prop) : List Value → List Lx.Match → Prop
  | [], [] => True
  | a :: b :: c :: d :: r, m :: ms => a = .int .i64 m.entry ∧ b = .int .i64 m.ending ∧ RdX w ok 1 encInt c m.clitics ∧ d = .int .i64 m.long ∧ mrows w ok r ms
  | _, _ => False
theorem mrows_keep {w w' : World} {ok ok' : Nat → Prop} (hk : ∀ b, ok b → ok' b ∧ w'.heap[b]? = w.heap[b]?) : ∀ (cs : List Value) (ms : List Lx.Match), mrows w ok cs ms → mrows w' ok' cs ms
  | [], [], _ => trivial
  | a :: b :: c :: d :: r, m :: ms, ⟨h1, h2, h3, h4, h5⟩ => ⟨h1, h2, h3.keep hk, h4, mrows_keep hk r ms h5⟩
  | [], _ :: _, h => h
  | [_], _, h => by cases ‹List Lx.Match› <;> exact h
  | [_, _], _, h => by cases ‹List Lx.Match› <;> exact h
  | [_, _, _], _, h => by cases ‹List Lx.Match› <;> exact h
  | _ :: _ :: _ :: _ :: _, [], h => h
theorem mrows_snoc {w : World} {ok : Nat → Prop} {a b c d : Value} {m : Lx.Match} (h : mrows w ok [a, b, c, d] [m]) : ∀ (cs : List Value) (ms : List Lx.Match), mrows w ok cs ms → mrows w ok (cs ++ [a, b, c, d]) (ms ++ [m])
  | [], [], _ => h
  | _ :: _ :: _ :: _ :: r, _ :: ms, ⟨h1, h2, h3, h4, h5⟩ => ⟨h1, h2, h3, h4, mrows_snoc h r ms h5⟩
  | [], _ :: _, h => h.elim
  | [_], ms, h => by cases ms <;> exact h.elim
  | [_, _], ms, h => by cases ms <;> exact h.elim
  | [_, _, _], ms, h => by cases ms <;> exact h.elim
  | _ :: _ :: _ :: _ :: _, [], h => h.elim
theorem mrows_at {w : World} {ok : Nat → Prop} : ∀ (cs : List Value) (ms : List Lx.Match), mrows w ok cs ms → ∀ (i : Nat) (m : Lx.Match), ms[i]? = some m →
    cs[i * 4]? = some (.int .i64 m.entry) ∧ cs[i * 4 + 1]? = some (.int .i64 m.ending) ∧ (∃ c, cs[i * 4 + 2]? = some c ∧ RdX w ok 1 encInt c m.clitics) ∧ cs[i * 4 + 3]? = some (.int .i64 m.long)
  | [], [], _, i, m, h => by simp at h
  | a :: b :: c :: d :: r, m0 :: ms, ⟨h1, h2, h3, h4, h5⟩, i, m, h => by
    cases i with
    | zero =>
      simp at h
      subst h
      exact ⟨by simp [h1], by simp [h2], ⟨c, by simp, h3⟩, by simp [h4]⟩
    | succ i =>
      simp at h
      have := mrows_at r ms h5 i m h
      simpa [Nat.succ_mul] using this
  | [], _ :: _, h, _, _, _ => h.elim
  | [_], ms, h, _, _, _ => by cases ms <;> exact h.elim
  | [_, _], ms, h, _, _, _ => by cases ms <;> exact h.elim
  | [_, _, _], ms, h, _, _, _ => by cases ms <;> exact h.elim
  | _ :: _ :: _ :: _ :: _, [], h, _, _, _ => h.elim

/-- A list of matches of the call's own. -/
def OwnM (w : World) (base : Nat) (v : Value) (ms : List Lx.Match) : Prop :=
  ∃ cells, w.ownsRow base 78 4 v ms.length cells ∧ mrows w (fun b => b < w.heap.size ∧ v.ownBlock ≠ some b ∧ base ≤ b) cells ms
theorem OwnM.nil (w : World) (base : Nat) : OwnM w base (.slice none 0 0) [] := ⟨[], World.ownsRow_nil w base _ _, trivial⟩
theorem OwnM.kept {w w' : World} {base : Nat} {v : Value} {ms : List Lx.Match} (h : OwnM w base v ms) (hb : Below w.heap.size w w') : OwnM w' base v ms := by
  obtain ⟨cells, h1, h2⟩ := h
  refine ⟨cells, h1.kept (row := none) ⟨hb.os, hb.tape, hb.output, hb.size, fun k hk _ => hb.block k hk⟩ (by
    rcases h1.2 with ⟨rfl, _⟩ | ⟨g, cap, cur, rfl, _⟩
    · exact .inl rfl
    · exact .inr (by simp [Value.ownBlock])), mrows_keep (fun b hbk => ⟨⟨Nat.lt_of_lt_of_le hbk.1 hb.size, hbk.2⟩, hb.block b hbk.1⟩) _ _ h2⟩
end Go.Proofs.YtpmnpnlfgfleeaaDoor
