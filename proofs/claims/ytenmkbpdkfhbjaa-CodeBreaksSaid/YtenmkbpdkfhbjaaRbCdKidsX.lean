/- A list of items of the call's own grows, beside a box of the call's own. -/
import Derived.Test.YtenmkbpdkfhbjaaRbCdOver
import Derived.Deep.RegionLaw
namespace Go.Proofs.Ytenmkbpdkfhbjaa
open Go Go.RowKit

/-- a list of the call's own that does not lie in block X -/
def OwnP (X : Nat) (w : World) (base : Nat) (v : Value) (xs : List Cd.Item) : Prop :=
  ∃ cells, w.ownsRow base 76 11 v xs.length cells ∧ grows (KI S0) w (fun b => b < w.heap.size ∧ v.ownBlock ≠ some b ∧ base ≤ b ∧ b ≠ X) cells xs ∧ v.ownBlock ≠ some X
section
variable {X : Nat} {w w' : World} {base : Nat} {v : Value} {xs : List Cd.Item}
theorem OwnP.own (h : OwnP X w base v xs) : OwnG (KI S0) 76 w base v xs := by
  obtain ⟨cells, h1, h2, -⟩ := h
  exact ⟨cells, h1, h2.keep fun b hb => ⟨⟨hb.1, hb.2.1, hb.2.2.1⟩, rfl⟩⟩
theorem OwnP.of (h : OwnG (KI S0) 76 w base v xs) (hX : w.heap.size ≤ X) (hb : Below w.heap.size w w') : OwnP X w' base v xs := by
  obtain ⟨cells, h1, h2⟩ := h
  refine ⟨cells, h1.kept (grown_of_below (row := none) hb) (by cases v.ownBlock <;> simp), h2.keep fun b hk => ⟨⟨Nat.lt_of_lt_of_le hk.1 hb.size, hk.2.1, hk.2.2, by omega⟩, hb.block b hk.1⟩, fun e => by have := (h1.lt X e).2; omega⟩
theorem OwnP.aside {row : Option Nat} (h : OwnP X w base v xs) (hg : w.grownBy w' row) (hk : ∀ k, row = some k → k < base ∨ k = X) : OwnP X w' base v xs := by
  obtain ⟨cells, h1, h2, h3⟩ := h
  refine ⟨cells, h1.kept hg ?_, h2.keep fun b hb => ⟨⟨Nat.lt_of_lt_of_le hb.1 hg.size, hb.2⟩, hg.block b hb.1 fun e => by rcases hk b e.symm with q | q <;> omega⟩, h3⟩
  cases ho : v.ownBlock with
  | none => exact .inl rfl
  | some g =>
    right
    intro e
    rcases hk g e.symm with q | q
    · have := (h1.lt g ho).1; omega
    · exact h3 (by rw [ho, q])
theorem OwnP.form (h : OwnP X w base v xs) : ∃ A c, v = .slice A xs.length c := h.own.form
theorem wp_append_itemP {o : Oper} {a : Act} {K : Act → World → Prop} {Q : Exit → Act → World → Prop} (s x : Operand)
    (ho : o.op = .call { callee := .builtin .append, args := #[s, x], argTypes := #[47, 47] })
    (y : Cd.Item) (hs : a.eval s = v) (hown : OwnP X w base v xs) (b c : Nat) (cs : List Value) (hx : a.eval x = .slice (some ⟨b, 0, none⟩) 1 c) (hc : 1 ≤ c ∧ c ≤ 9223372036854775807)
    (hb : w.heap[b]? = some (.cells cs.toArray 76 (0, 0))) (h1 : ∀ u ∈ cs, u.oneCell' = true) (hrd : (KI S0).rd w (fun b => b < w.heap.size ∧ v.ownBlock ≠ some b ∧ base ≤ b ∧ b ≠ X) cs y) (hn : xs.length ≤ 2000000) (hbase : base ≤ w.heap.size) (hX : X < w.heap.size)
    (h : ∀ v' w', OwnP X w' base v' (xs ++ [y]) → w.grownBy w' v.ownBlock → K (a.put o.dst v') w') : o.wp Try.prog a w K Q := by
  obtain ⟨i0, hi0, hz0, hs0, hb0⟩ := info_parts info_item
  obtain ⟨cells, hown, hg, hnx⟩ := hown
  have hl : cs.length = 11 := (KI S0).len hrd
  refine wp_append_rd (enc := enc11) s x _ ho base 76 i0 _ 11 112 len_11 one_11 Try.underlying47 hi0 hz0 hs0 hb0 rfl (by decide) v xs.length cells hs hown w.heap.size _ [⟨cs, hl, h1⟩] hx ?_ (by simp [maxLen]; omega) (by simp; omega) hbase ?_
  · refine ⟨_, c, rfl, hc.1, hc.2, fun _ => ⟨b, 0, rfl, lt_of_some hb, fun i q hi j u hj => ?_⟩⟩
    cases i with
    | zero =>
      simp at hi
      subst hi
      rw [(in_box hb _).1]
      simpa [enc11] using hj
    | succ i => simp at hi
  · intro v' w' hown' hgw hat
    refine h v' w' ?_ hgw
    have hk : ∀ b, (b < w.heap.size ∧ v.ownBlock ≠ some b ∧ base ≤ b ∧ b ≠ X) → (b < w'.heap.size ∧ v'.ownBlock ≠ some b ∧ base ≤ b ∧ b ≠ X) ∧ w'.heap[b]? = w.heap[b]? := by
      intro b ⟨hb, hne, hbs, hbx⟩
      refine ⟨⟨Nat.lt_of_lt_of_le hb hgw.size, ?_, hbs, hbx⟩, hgw.block b hb (fun e => hne e.symm)⟩
      rcases hat with e | e
      · rw [e]; exact hne
      · rw [e]; intro q; cases q; omega
    refine ⟨cells ++ cs, by rw [List.length_append]; have := hown'; simp only [List.length_singleton, List.flatMap_cons, List.flatMap_nil, List.append_nil] at this; exact this, (hg.snoc hrd).keep hk, ?_⟩
    rcases hat with e | e
    · rw [e]; exact hnx
    · rw [e]; intro q; cases q; omega
theorem step_append_itemP {ops : Array Oper} {o : Oper} {a : Act} {K : Act → World → Prop} {Q : Exit → Act → World → Prop} {E : Prop} (hgd : o.guard = none) (s x : Operand)
    (ho : o.op = .call { callee := .builtin .append, args := #[s, x], argTypes := #[47, 47] })
    (y : Cd.Item) (hs : a.eval s = v) (hown : OwnP X w base v xs) (b c : Nat) (cs : List Value) (hx : a.eval x = .slice (some ⟨b, 0, none⟩) 1 c) (hc : 1 ≤ c ∧ c ≤ 9223372036854775807)
    (hb : w.heap[b]? = some (.cells cs.toArray 76 (0, 0))) (h1 : ∀ u ∈ cs, u.oneCell' = true) (hrd : (KI S0).rd w (fun b => b < w.heap.size ∧ v.ownBlock ≠ some b ∧ base ≤ b ∧ b ≠ X) cs y) (hn : xs.length ≤ 2000000) (hbase : base ≤ w.heap.size) (hX : X < w.heap.size)
    (h : ∀ v' w', OwnP X w' base v' (xs ++ [y]) → w.grownBy w' v.ownBlock → K (a.put o.dst v') w') : if Region.wanted o (yielded ops a.tmps) = true then Oper.wp Try.prog o a w K Q else E := by
  have hw : Region.wanted o (yielded ops a.tmps) = true := by simp [Region.wanted, hgd]
  rw [if_pos hw]
  exact wp_append_itemP s x ho y hs hown b c cs hx hc hb h1 hrd hn hbase hX h
end
end Go.Proofs.Ytenmkbpdkfhbjaa
