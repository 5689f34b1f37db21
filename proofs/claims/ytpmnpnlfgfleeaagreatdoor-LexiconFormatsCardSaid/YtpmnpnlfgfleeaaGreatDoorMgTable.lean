/- Lists of matches as values; lists of these. -/
import Derived.Test.YtpmnpnlfgfleeaaGreatDoorMgMatches
namespace Go.Proofs.YtpmnpnlfgfleeaaGreatDoor
open Go.RowKit

/-- The value reads as a list of matches, its blocks within 'ok'. -/
def RdMs (w : World) (ok : Nat → Prop) (v : Value) (ms : List Lx.Match) : Prop :=
  ∃ A c, v = .slice A ms.length c ∧ ms.length ≤ c ∧ c ≤ 9223372036854775807 ∧
    (0 < ms.length → ∃ b off, A = some ⟨b, off, none⟩ ∧ ok b ∧ ∀ i m, ms[i]? = some m →
      w.cell? ⟨b, off + i * 4, none⟩ = some (.int .i64 m.entry) ∧ w.cell? ⟨b, off + i * 4 + 1, none⟩ = some (.int .i64 m.ending) ∧
      (∃ s, w.cell? ⟨b, off + i * 4 + 2, none⟩ = some s ∧ RdX w ok 1 encInt s m.clitics) ∧ w.cell? ⟨b, off + i * 4 + 3, none⟩ = some (.int .i64 m.long))
theorem RdMs.keep {w w' : World} {v : Value} {ms : List Lx.Match} {ok ok' : Nat → Prop} (h : RdMs w ok v ms) (hk : ∀ b, ok b → ok' b ∧ w'.heap[b]? = w.heap[b]?) : RdMs w' ok' v ms := by
  obtain ⟨A, c, hv, hl, hc, hh⟩ := h
  refine ⟨A, c, hv, hl, hc, fun h0 => ?_⟩
  obtain ⟨b, off, hA, hb, hcell⟩ := hh h0
  refine ⟨b, off, hA, (hk b hb).1, fun i m hm => ?_⟩
  obtain ⟨h1, h2, ⟨s, h3, h3'⟩, h4⟩ := hcell i m hm
  have e := fun (o : Nat) => World.cell?_of_block (w := w) (w' := w') (a := ⟨b, o, none⟩) (hk b hb).2
  exact ⟨(e _).trans h1, (e _).trans h2, ⟨s, (e _).trans h3, h3'.keep hk⟩, (e _).trans h4⟩
theorem rdms_of_own {w : World} {base : Nat} {v : Value} {ms : List Lx.Match} (h : OwnM w base v ms) : RdMs w (fun b => b < w.heap.size ∧ base ≤ b) v ms := by
  obtain ⟨cells, h1, h2⟩ := h
  obtain ⟨_, h3⟩ := id h1
  rcases h3 with ⟨rfl, h0⟩ | ⟨g, cap, cur, rfl, hg, hh, hle, hm, hs, ht⟩
  · exact ⟨none, 0, by rw [h0], by omega, by omega, fun hp => by omega⟩
  · refine ⟨some ⟨g, 0, none⟩, cap, rfl, hle, by simpa [maxLen] using hm, fun _ => ⟨g, 0, rfl, ⟨(h1.lt g rfl).2, hg⟩, fun i m hi => ?_⟩⟩
    obtain ⟨a1, a2, ⟨c, a3, a3'⟩, a4⟩ := mrows_at _ _ h2 i m hi
    have e : ∀ k u, cells[k]? = some u → w.cell? ⟨g, 0 + k, none⟩ = some u := fun k u hu => by
      have := h1.cells rfl k u hu
      rwa [addr_add] at this
    refine ⟨e _ _ a1, ?_, ⟨c, ?_, a3'.keep fun b hb => ⟨⟨hb.1, hb.2.2⟩, rfl⟩⟩, ?_⟩
    · rw [Nat.add_assoc]; exact e _ _ a2
    · rw [Nat.add_assoc]; exact e _ _ a3
    · rw [Nat.add_assoc]; exact e _ _ a4
theorem RdMs.form {w : World} {ok : Nat → Prop} {v : Value} {ms : List Lx.Match} (h : RdMs w ok v ms) : ∃ A c, v = .slice A ms.length c := by
  obtain ⟨A, c, hv, _⟩ := h
  exact ⟨A, c, hv⟩

/-- The values read as these lists. -/
inductive RdT (w : World) (ok : Nat → Prop) : List Value → List (List Lx.Match) → Prop
  | nil : RdT w ok [] []
  | cons {v : Value} {ms : List Lx.Match} {vs : List Value} {ls : List (List Lx.Match)} (h : RdMs w ok v ms) (r : RdT w ok vs ls) : RdT w ok (v :: vs) (ms :: ls)
theorem RdT.keep {w w' : World} {ok ok' : Nat → Prop} (hk : ∀ b, ok b → ok' b ∧ w'.heap[b]? = w.heap[b]?) {vs : List Value} {ls : List (List Lx.Match)} (h : RdT w ok vs ls) : RdT w' ok' vs ls := by
  induction h with
  | nil => exact .nil
  | cons h _ ih => exact .cons (h.keep hk) ih
theorem RdT.snoc {w : World} {ok : Nat → Prop} {v : Value} {ms : List Lx.Match} (hv : RdMs w ok v ms) {vs : List Value} {ls : List (List Lx.Match)} (h : RdT w ok vs ls) : RdT w ok (vs ++ [v]) (ls ++ [ms]) := by
  induction h with
  | nil => exact .cons hv .nil
  | cons h _ ih => exact .cons h ih
theorem RdT.at {w : World} {ok : Nat → Prop} {vs : List Value} {ls : List (List Lx.Match)} (h : RdT w ok vs ls) : ∀ {i : Nat} {ms : List Lx.Match}, ls[i]? = some ms → ∃ v, vs[i]? = some v ∧ RdMs w ok v ms := by
  induction h with
  | nil => intro i ms h; simp at h
  | @cons v ms vs ls h _ ih =>
    intro i ms' h'
    cases i with
    | zero => simp at h'; subst h'; exact ⟨v, by simp, h⟩
    | succ i => simp at h'; obtain ⟨u, h1, h2⟩ := ih h'; exact ⟨u, by simpa using h1, h2⟩

/-- A list of lists of matches, of the call's own. -/
def OwnT (w : World) (base : Nat) (v : Value) (ls : List (List Lx.Match)) : Prop :=
  ∃ vs, w.ownsRow base 85 1 v ls.length vs ∧ RdT w (fun b => b < w.heap.size ∧ v.ownBlock ≠ some b ∧ base ≤ b) vs ls
theorem OwnT.nil (w : World) (base : Nat) : OwnT w base (.slice none 0 0) [] := ⟨[], World.ownsRow_nil w base _ _, .nil⟩
theorem OwnT.kept {w w' : World} {base : Nat} {v : Value} {ls : List (List Lx.Match)} (h : OwnT w base v ls) (hb : Below w.heap.size w w') : OwnT w' base v ls := by
  obtain ⟨cells, h1, h2⟩ := h
  refine ⟨cells, h1.kept (row := none) ⟨hb.os, hb.tape, hb.output, hb.size, fun k hk _ => hb.block k hk⟩ (by
    rcases h1.2 with ⟨rfl, _⟩ | ⟨g, cap, cur, rfl, _⟩
    · exact .inl rfl
    · exact .inr (by simp [Value.ownBlock])), h2.keep (fun b hbk => ⟨⟨Nat.lt_of_lt_of_le hbk.1 hb.size, hbk.2⟩, hb.block b hbk.1⟩)⟩
theorem OwnT.form {w : World} {base : Nat} {v : Value} {ls : List (List Lx.Match)} (h : OwnT w base v ls) : ∃ A c, v = .slice A ls.length c := by
  obtain ⟨cells, h1, _⟩ := h
  exact own_form h1
theorem OwnT.lt {w : World} {base : Nat} {v : Value} {ls : List (List Lx.Match)} (h : OwnT w base v ls) : ∀ g, v.ownBlock = some g → base ≤ g ∧ g < w.heap.size := by
  obtain ⟨cells, h1, _⟩ := h
  exact fun g hg => h1.lt g hg
/-- a slice value as a row of one cell -/
def encSl (q : Option Addr × Nat × Nat) : List Value := [.slice q.1 q.2.1 q.2.2]
theorem len_sl (q : Option Addr × Nat × Nat) : (encSl q).length = 1 := rfl
theorem one_sl (q : Option Addr × Nat × Nat) : ∀ u ∈ encSl q, u.oneCell' = true := by intro u hu; simp [encSl] at hu; subst hu; rfl
theorem info_sMatch : (Tryz.prog.info? 85).map (fun i => (i.zero, i.size, i.bytes)) = some (some (.slice none 0 0), 1, 24) := by kernel_rfl
/-- appended: one list more -/
theorem ownT_snoc {w w' : World} {base : Nat} {v v' u : Value} {ls : List (List Lx.Match)} {ms : List Lx.Match} {vs : List Value} (h2 : RdT w (fun b => b < w.heap.size ∧ v.ownBlock ≠ some b ∧ base ≤ b) vs ls)
    (hm : RdMs w (fun b => b < w.heap.size ∧ v.ownBlock ≠ some b ∧ base ≤ b) u ms) (hown : w'.ownsRow base 85 1 v' (ls.length + 1) (vs ++ [u])) (hg : w.grownBy w' v.ownBlock)
    (hat : v'.ownBlock = v.ownBlock ∨ ∃ g, v'.ownBlock = some g ∧ w.heap.size ≤ g) : OwnT w' base v' (ls ++ [ms]) := by
  have hk : ∀ b, (b < w.heap.size ∧ v.ownBlock ≠ some b ∧ base ≤ b) → (b < w'.heap.size ∧ v'.ownBlock ≠ some b ∧ base ≤ b) ∧ w'.heap[b]? = w.heap[b]? := by
    intro b ⟨hb, hne, hbs⟩
    refine ⟨⟨Nat.lt_of_lt_of_le hb hg.size, ?_, hbs⟩, hg.block b hb (fun e => hne e.symm)⟩
    rcases hat with e | ⟨g, e, hge⟩
    · rw [e]; exact hne
    · rw [e]; intro q; cases q; omega
  exact ⟨_, by rw [List.length_append]; exact hown, (h2.snoc hm).keep hk⟩
end Go.Proofs.YtpmnpnlfgfleeaaGreatDoor
