/- code.one: a node with kids, or its only kid.; A list of items of the call's own grows.; code.resolve's map of codes. -/
import Derived.Test.YtenmkbpdkfhbjaaRbCdLeaf
import Derived.Test.YtenmkbpdkfhbjaaRbSgSeen
import Derived.Maps.OwnSet
namespace Go.Proofs.Ytenmkbpdkfhbjaa
open Go Go.RowKit

section
variable {W : World} {Z : Nat} {T : TypeId} {c0 c1 c2 c3 c4 c5 c6 c7 c8 c9 c10 : Value}
theorem box_cells (h : W.heap[Z]? = some (.cells #[c0, c1, c2, c3, c4, c5, c6, c7, c8, c9, c10] T (0, 0))) :
    W.cell? ⟨Z, 0, none⟩ = some c0 ∧ W.cell? ⟨Z, 1, none⟩ = some c1 ∧ W.cell? ⟨Z, 2, none⟩ = some c2 ∧ W.cell? ⟨Z, 3, none⟩ = some c3 ∧ W.cell? ⟨Z, 4, none⟩ = some c4 ∧ W.cell? ⟨Z, 5, none⟩ = some c5 ∧ W.cell? ⟨Z, 6, none⟩ = some c6 ∧ W.cell? ⟨Z, 7, none⟩ = some c7 ∧ W.cell? ⟨Z, 8, none⟩ = some c8 ∧ W.cell? ⟨Z, 9, none⟩ = some c9 ∧ W.cell? ⟨Z, 10, none⟩ = some c10 := by
  simp [World.cell?, h]
theorem box_free (h : W.heap[Z]? = some (.cells #[c0, c1, c2, c3, c4, c5, c6, c7, c8, c9, c10] T (0, 0))) :
    W.frozen? ⟨Z, 0, none⟩ = false ∧ W.frozen? ⟨Z, 1, none⟩ = false ∧ W.frozen? ⟨Z, 2, none⟩ = false ∧ W.frozen? ⟨Z, 3, none⟩ = false ∧ W.frozen? ⟨Z, 4, none⟩ = false ∧ W.frozen? ⟨Z, 5, none⟩ = false ∧ W.frozen? ⟨Z, 6, none⟩ = false ∧ W.frozen? ⟨Z, 7, none⟩ = false ∧ W.frozen? ⟨Z, 8, none⟩ = false ∧ W.frozen? ⟨Z, 9, none⟩ = false ∧ W.frozen? ⟨Z, 10, none⟩ = false := by
  simp [World.frozen?, h]
theorem set_step {W X : World} {Z : Nat} {T : TypeId} {old ds : Array Value} (hX : X = W.setRow Z ds) (h : W.heap[Z]? = some (.cells old T (0, 0))) (i : Nat) (v : Value) : X.setCell ⟨Z, i, none⟩ v = W.setRow Z (ds.setIfInBounds i v) := by
  subst hX
  rw [setCell_eq_setRow _ Z i ds T (0, 0) v (setRow_heap _ _ _ _ _ _ h), setRow_setRow]
theorem set_box (h : W.heap[Z]? = some (.cells #[c0, c1, c2, c3, c4, c5, c6, c7, c8, c9, c10] T (0, 0))) (v0 v1 v2 v3 v4 v5 v6 v7 v8 v9 v10 : Value) :
    (((((((((((W.setCell ⟨Z, 0, none⟩ v0).setCell ⟨Z, 1, none⟩ v1).setCell ⟨Z, 2, none⟩ v2).setCell ⟨Z, 3, none⟩ v3).setCell ⟨Z, 4, none⟩ v4).setCell ⟨Z, 5, none⟩ v5).setCell ⟨Z, 6, none⟩ v6).setCell ⟨Z, 7, none⟩ v7).setCell ⟨Z, 8, none⟩ v8).setCell ⟨Z, 9, none⟩ v9).setCell ⟨Z, 10, none⟩ v10) = W.setRow Z #[v0, v1, v2, v3, v4, v5, v6, v7, v8, v9, v10] := by
  have hs0 : W.setCell ⟨Z, 0, none⟩ v0 = W.setRow Z (#[c0, c1, c2, c3, c4, c5, c6, c7, c8, c9, c10].setIfInBounds 0 v0) := setCell_eq_setRow W Z 0 _ T (0, 0) v0 h
  have hh := (set_step (set_step (set_step (set_step (set_step (set_step (set_step (set_step (set_step (set_step hs0 h 1 v1) h 2 v2) h 3 v3) h 4 v4) h 5 v5) h 6 v6) h 7 v7) h 8 v8) h 9 v9) h 10 v10)
  simp only [List.setIfInBounds_toArray, List.set_cons_succ, List.set_cons_zero] at hh
  exact hh
end
/-- the items of a slice: the cells of one of them -/
theorem RdH.item {S : List UInt8 → Int → Prop} {w : World} {ok : Nat → Prop} {A : Option Addr} {n c : Nat} {xs : List Cd.Item} (h : RdH (KI S) 76 w ok (.slice A n c) xs) {i : Nat} {x : Cd.Item} (hi : xs[i]? = some x) :
    ∃ b cur z A' c', A = some ⟨b, 0, none⟩ ∧ ok b ∧ w.heap[b]? = some (.cells cur 76 (0, 0)) ∧ (if x.node.kind = 1 then S x.code z else z = x.node.sign) ∧ RdH (KI S) 76 w ok (.slice A' x.kids.length c') x.kids ∧
      cur[i * 11]? = some (.int .i64 x.node.kind) ∧ cur[i * 11 + 1]? = some (.int .i64 x.node.depth) ∧ cur[i * 11 + 2]? = some (.int .i64 z) ∧ cur[i * 11 + 3]? = some (.int .i64 x.node.turn) ∧ cur[i * 11 + 4]? = some (.bool x.node.mirror) ∧ cur[i * 11 + 5]? = some (.int .i64 x.node.state) ∧
      cur[i * 11 + 6]? = some (.int .i64 x.node.lo) ∧ cur[i * 11 + 7]? = some (.int .i64 x.node.hi) ∧ cur[i * 11 + 8]? = some (.string (Cd.bs x.code)) ∧ cur[i * 11 + 9]? = some (.int .i64 x.pos) ∧ cur[i * 11 + 10]? = some (.slice A' x.kids.length c') := by
  obtain ⟨A0, c0, hv, hl, hc, hh⟩ := h
  cases hv
  obtain ⟨b, cur, hA, hb, hcur, hcell⟩ := hh (by have := (List.getElem?_eq_some_iff.1 hi).1; omega)
  obtain ⟨cs, hrd, hcs⟩ := hcell i x hi
  obtain ⟨z, v, rfl, hz, hk⟩ := ki_inv hrd
  obtain ⟨A', c', rfl⟩ := hk.form
  refine ⟨b, cur, z, A', c', hA, hb, hcur, hz, hk, ?_, hcs 1 _ rfl, hcs 2 _ rfl, hcs 3 _ rfl, hcs 4 _ rfl, hcs 5 _ rfl, hcs 6 _ rfl, hcs 7 _ rfl, hcs 8 _ rfl, hcs 9 _ rfl, hcs 10 _ rfl⟩
  have := hcs 0 _ rfl
  simpa [KI] using this
def RetOne (kind : Int) (xs : List Cd.Item) (ok : Nat → Prop) (w : World) (e : Ending) (w' : World) : Prop := ∃ v, e = .returned v ∧ VI S0 w' ok v (Cd.one kind xs) ∧ Below w.heap.size w w'
set_option maxRecDepth 100000 in
set_option maxHeartbeats 8000000 in
theorem one_any (kind : Int) (xs : List Cd.Item) (A : Option Addr) (c : Nat) (ok : Nat → Prop) (w : World) (h : RdH (KI S0) 76 w ok (.slice A xs.length c) xs) (hok : ∀ b, ok b → b < w.heap.size) (hn : kind ≠ 1) (hx0 : 0 < xs.length) (hx : xs.length ≤ 2000000) :
    Calls Try.prog 68 #[.int .i64 kind, .slice A xs.length c] w (RetOne kind xs ok w) := by
  obtain ⟨W1, hW1⟩ : ∃ W1, W1 = w.alloc (.cells #[.int .i64 0, .int .i64 0, .int .i64 0, .int .i64 0, .bool false, .int .i64 0, .int .i64 0, .int .i64 0, .string ⟨#[]⟩, .int .i64 0, .slice none 0 0] 76) := ⟨_, rfl⟩
  have hb1 : Below w.heap.size w W1 := by rw [hW1]; exact (Below.refl _ _).alloc (Nat.le_refl _) _
  have hz : W1.heap[w.heap.size]? = some (.cells #[.int .i64 0, .int .i64 0, .int .i64 0, .int .i64 0, .bool false, .int .i64 0, .int .i64 0, .int .i64 0, .string ⟨#[]⟩, .int .i64 0, .slice none 0 0] 76 (0, 0)) := by rw [hW1]; exact heap_alloc_new _ _
  have HW1 := Lib.hid hW1
  have HB1 := Lib.hid hb1
  have HZ := Lib.hid hz
  have HK := Lib.hid h
  have HOK := Lib.hid hok
  obtain ⟨z0, z1, z2, z3, z4, z5, z6, z7, z8, z9, z10⟩ := box_cells hz
  obtain ⟨y0, y1, y2, y3, y4, y5, y6, y7, y8, y9, y10⟩ := box_free hz
  have HEND : Hid (∀ v0 v1 v2 v3 v4 v5 v6 v7 v8 v9 v10, Below w.heap.size w (W1.setRow w.heap.size #[v0, v1, v2, v3, v4, v5, v6, v7, v8, v9, v10])) := Lib.hid fun v0 v1 v2 v3 v4 v5 v6 v7 v8 v9 v10 => by
    rw [← set_box HZ.out]
    exact ((((((((((hb1.setCell (Nat.le_refl _) _).setCell (Nat.le_refl _) _).setCell (Nat.le_refl _) _).setCell (Nat.le_refl _) _).setCell (Nat.le_refl _) _).setCell (Nat.le_refl _) _).setCell (Nat.le_refl _) _).setCell (Nat.le_refl _) _).setCell (Nat.le_refl _) _).setCell (Nat.le_refl _) _).setCell (Nat.le_refl _) _
  clear hW1 hb1 hz h hok
  by_cases h1 : xs.length = 1
  · have hq : ((xs.length : Int) == 1) = true := by simp [h1]
    obtain ⟨x, hx1⟩ : ∃ x, xs[0]? = some x := ⟨_, List.getElem?_eq_getElem hx0⟩
    obtain ⟨b, cur, z, A', c', rfl, hb, hcur, hsg, hk, g0, g1, g2, g3, g4, g5, g6, g7, g8, g9, g10⟩ := HK.out.item hx1
    have hcur1 := (HB1.out.block b (HOK.out b hb)).trans hcur
    have HX : Hid (Cd.one kind xs = x) := Lib.hid (by
      cases xs with
      | nil => simp at hx0
      | cons y r =>
        cases r with
        | nil => simp at hx1; rw [← hx1]; rfl
        | cons _ _ => simp at h1)
    have HSG := Lib.hid hsg
    have HKK := Lib.hid hk
    simp only [Nat.zero_mul, Nat.zero_add] at g0 g1 g2 g3 g4 g5 g6 g7 g8 g9 g10
    have f0 := (in_box hcur1 0).1.trans g0
    have f1 := (in_box hcur1 1).1.trans g1
    have f2 := (in_box hcur1 2).1.trans g2
    have f3 := (in_box hcur1 3).1.trans g3
    have f4 := (in_box hcur1 4).1.trans g4
    have f5 := (in_box hcur1 5).1.trans g5
    have f6 := (in_box hcur1 6).1.trans g6
    have f7 := (in_box hcur1 7).1.trans g7
    have f8 := (in_box hcur1 8).1.trans g8
    have f9 := (in_box hcur1 9).1.trans g9
    have f10 := (in_box hcur1 10).1.trans g10
    have hl : (0 : Int) < (xs.length : Int) := by omega
    have HBL := Lib.hid (HOK.out b hb)
    clear hcur hcur1 g0 g1 g2 g3 g4 g5 g6 g7 g8 g9 g10 hx1 h1 hsg hk
    go_enter Try.func68, Try.ntmps68
    go_upto_region 1 with fail
    rw [← HW1.out]
    go_wp2_with fail
    rw [set_box HZ.out]
    refine bodyPost_ret (results_cell_row Try.results68 _ _ w.heap.size 76 _ (0, 0) _ rfl (setRow_heap _ _ _ _ _ _ HZ.out) Try.underlying76 rfl (by kernel_rfl)) rfl ?_
    refine ⟨_, rfl, ⟨z, A', c', by rw [HX.out]; rfl, by rw [HX.out]; exact HSG.out, by rw [HX.out]; exact HKK.out.keep fun b hb => ⟨hb, (HEND.out _ _ _ _ _ _ _ _ _ _ _).block b (HOK.out b hb)⟩⟩, HEND.out _ _ _ _ _ _ _ _ _ _ _⟩
  · have hq : ((xs.length : Int) == 1) = false := by simpa using (show ¬ (xs.length : Int) = 1 by omega)
    have HX : Hid (Cd.one kind xs = .mk (Cd.kindN kind) [] 0 xs) := Lib.hid (by
      cases xs with
      | nil => rfl
      | cons y r =>
        cases r with
        | nil => simp at h1
        | cons _ _ => rfl)
    clear h1
    go_enter Try.func68, Try.ntmps68
    go_upto_region 1 with fail
    rw [← HW1.out]
    go_wp2_with fail
    rw [set_box HZ.out]
    refine bodyPost_ret (results_cell_row Try.results68 _ _ w.heap.size 76 _ (0, 0) _ rfl (setRow_heap _ _ _ _ _ _ HZ.out) Try.underlying76 rfl (by kernel_rfl)) rfl ?_
    refine ⟨_, rfl, ⟨0, A, c, by rw [HX.out]; rfl, by rw [HX.out]; exact (if_neg hn).mpr rfl, by rw [HX.out]; exact HK.out.keep fun b hb => ⟨hb, (HEND.out _ _ _ _ _ _ _ _ _ _ _).block b (HOK.out b hb)⟩⟩, HEND.out _ _ _ _ _ _ _ _ _ _ _⟩
end Go.Proofs.Ytenmkbpdkfhbjaa
namespace Go.Proofs.Ytenmkbpdkfhbjaa
open Go Go.RowKit

abbrev Row11 := { cs : List Value // cs.length = 11 ∧ ∀ u ∈ cs, u.oneCell' = true }
def enc11 (q : Row11) : List Value := q.1
theorem len_11 (q : Row11) : (enc11 q).length = 11 := q.2.1
theorem one_11 (q : Row11) : ∀ u ∈ enc11 q, u.oneCell' = true := q.2.2
theorem OwnG.made {α : Type} {K : RowK α} {e : TypeId} {w : World} {base : Nat} {cs : List Value} {a : α} (hb : base ≤ w.heap.size) (hl : cs.length = K.size) (h : K.rd w (fun b => b < w.heap.size ∧ base ≤ b) cs a) :
    OwnG K e (w.alloc (.cells cs.toArray e)) base (.slice (some ⟨w.heap.size, 0, none⟩) 1 1) [a] := by
  refine ⟨cs, ⟨by simp [hl], .inr ⟨w.heap.size, 1, cs.toArray, rfl, hb, heap_alloc_new _ _, Nat.le_refl _, by decide, by simp [hl], by rw [List.length_singleton, Nat.one_mul, ← hl]; simp⟩⟩, ?_⟩
  have hk : ∀ b, (b < w.heap.size ∧ base ≤ b) → (b < (w.alloc (.cells cs.toArray e)).heap.size ∧ (Value.slice (some ⟨w.heap.size, 0, none⟩) 1 1).ownBlock ≠ some b ∧ base ≤ b) ∧ (w.alloc (.cells cs.toArray e)).heap[b]? = w.heap[b]? := fun b hb' =>
    ⟨⟨by simp; omega, by simp [Value.ownBlock]; omega, hb'.2⟩, Below.heap_alloc _ _ _ hb'.1⟩
  have := grows.cons (K := K) (w := w.alloc (.cells cs.toArray e)) (K.keep hk h) grows.nil
  simpa using this
section
variable {S : List UInt8 → Int → Prop} {w : World} {P : Program}
theorem wp_append_item {o : Oper} {a : Act} {K : Act → World → Prop} {Q : Exit → Act → World → Prop} (s x : Operand)
    (ho : o.op = .call { callee := .builtin .append, args := #[s, x], argTypes := #[47, 47] })
    (base : Nat) (v : Value) (xs : List Cd.Item) (y : Cd.Item) (hs : a.eval s = v) (hown : OwnG (KI S) 76 w base v xs) (b c : Nat) (cs : List Value) (hx : a.eval x = .slice (some ⟨b, 0, none⟩) 1 c) (hc : 1 ≤ c ∧ c ≤ 9223372036854775807)
    (hb : w.heap[b]? = some (.cells cs.toArray 76 (0, 0))) (h1 : ∀ u ∈ cs, u.oneCell' = true) (hrd : (KI S).rd w (fun b => b < w.heap.size ∧ v.ownBlock ≠ some b ∧ base ≤ b) cs y) (hn : xs.length ≤ 2000000) (hbase : base ≤ w.heap.size)
    (h : ∀ v' w', OwnG (KI S) 76 w' base v' (xs ++ [y]) → w.grownBy w' v.ownBlock → K (a.put o.dst v') w') : o.wp Try.prog a w K Q := by
  obtain ⟨i0, hi0, hz0, hs0, hb0⟩ := info_parts info_item
  obtain ⟨cells, hown, hg⟩ := hown
  have hl : cs.length = 11 := (KI S).len hrd
  refine wp_append_rd (enc := enc11) s x _ ho base 76 i0 _ 11 112 len_11 one_11 Try.underlying47 hi0 hz0 hs0 hb0 rfl (by decide) v xs.length cells hs hown w.heap.size _ [⟨cs, hl, h1⟩] hx ?_ (by simp [maxLen]; omega) (by simp; omega) hbase ?_
  · refine ⟨_, c, rfl, hc.1, hc.2, fun _ => ⟨b, 0, rfl, lt_of_some hb, fun i q hi j u hj => ?_⟩⟩
    cases i with
    | zero =>
      simp at hi
      subst hi
      rw [(in_box hb _).1]
      simpa [enc11] using hj
    | succ i => simp at hi
  · intro v' w' hown' hgw hat
    refine h v' w' (OwnG.snoc hg hrd (by have := hown'; simp only [List.length_singleton, List.flatMap_cons, List.flatMap_nil, List.append_nil] at this; exact this) hgw ?_) hgw
    rcases hat with e | e
    · exact .inl e
    · exact .inr ⟨_, e, Nat.le_refl _⟩
theorem wpList_append_item {ops : Array Oper} {rest : List Oper} {o : Oper} {a : Act} {Q : Exit → Act → World → Prop} (hgd : o.guard = none) (s x : Operand)
    (ho : o.op = .call { callee := .builtin .append, args := #[s, x], argTypes := #[47, 47] })
    (base : Nat) (v : Value) (xs : List Cd.Item) (y : Cd.Item) (hs : a.eval s = v) (hown : OwnG (KI S) 76 w base v xs) (b c : Nat) (cs : List Value) (hx : a.eval x = .slice (some ⟨b, 0, none⟩) 1 c) (hc : 1 ≤ c ∧ c ≤ 9223372036854775807)
    (hb : w.heap[b]? = some (.cells cs.toArray 76 (0, 0))) (h1 : ∀ u ∈ cs, u.oneCell' = true) (hrd : (KI S).rd w (fun b => b < w.heap.size ∧ v.ownBlock ≠ some b ∧ base ≤ b) cs y) (hn : xs.length ≤ 2000000) (hbase : base ≤ w.heap.size)
    (h : ∀ v' w', OwnG (KI S) 76 w' base v' (xs ++ [y]) → w.grownBy w' v.ownBlock → wpList Try.prog ops Q rest (a.put o.dst v') w') : wpList Try.prog ops Q (o :: rest) a w :=
  wpList_plain hgd fun _ hK => wp_append_item s x ho base v xs y hs hown b c cs hx hc hb h1 hrd hn hbase fun v' w' q1 q2 => hK _ _ (h v' w' q1 q2)
/-- what a part handed back, as cells -/
theorem VI.cells {w : World} {ok : Nat → Prop} {v : Value} {x : Cd.Item} (h : VI S w ok v x) : ∃ cs : List Value, v = .agg cs.toArray ∧ (KI S).rd w ok cs x ∧ cs.length = 11 ∧ ∀ u ∈ cs, u.oneCell' = true := by
  obtain ⟨z, A, c, rfl, hz, hk⟩ := h
  refine ⟨_, rfl, ki_mk hz hk, rfl, ?_⟩
  intro u hu
  simp at hu
  rcases hu with rfl | rfl | rfl | rfl | rfl | rfl | rfl | rfl | rfl | rfl | rfl <;> rfl
end
end Go.Proofs.Ytenmkbpdkfhbjaa
namespace Cd
open Go
/-- the last of the first k signs with a code, or -1 -/
def ixUp (l : List Sg.Sign) (c : List UInt8) : Nat → Int
  | 0 => -1
  | k + 1 => match l[k]? with
    | some s => if s.code.data.toList = c then (k : Int) else ixUp l c k
    | none => ixUp l c k
theorem ixUp_range (l : List Sg.Sign) (c : List UInt8) : ∀ k : Nat, -1 ≤ ixUp l c k ∧ ixUp l c k < k ∧ (0 ≤ ixUp l c k → ∃ s, l[(ixUp l c k).toNat]? = some s ∧ s.code.data.toList = c) ∧ (ixUp l c k = -1 → ∀ j s, j < k → l[j]? = some s → s.code.data.toList ≠ c)
  | 0 => ⟨by simp [ixUp], by simp [ixUp], fun h => absurd h (by simp [ixUp]), fun _ j s h => absurd h (Nat.not_lt_zero j)⟩
  | k + 1 => by
    obtain ⟨h1, h2, h3, h4⟩ := ixUp_range l c k
    unfold ixUp
    cases hk : l[k]? with
    | none =>
      simp only
      refine ⟨h1, by omega, h3, fun e j s hj hs => ?_⟩
      rcases Nat.lt_or_ge j k with q | q
      · exact h4 e j s q hs
      · have : j = k := by omega
        subst this
        rw [hk] at hs; cases hs
    | some t =>
      simp only
      by_cases hc : t.code.data.toList = c
      · rw [if_pos hc]
        exact ⟨by omega, by omega, fun _ => ⟨t, by simpa using hk, hc⟩, fun e => by omega⟩
      · rw [if_neg hc]
        refine ⟨h1, by omega, h3, fun e j s hj hs => ?_⟩
        rcases Nat.lt_or_ge j k with q | q
        · exact h4 e j s q hs
        · have : j = k := by omega
          subst this
          rw [hk] at hs; cases hs; exact hc
/-- in a valid list the last is the first -/
theorem ixUp_sign {l : Sg.SList} (h : Sg.checkV l = 0) (c : List UInt8) : ixUp l.signs c l.signs.length = signIx l c := by
  obtain ⟨h1, h2, h3, h4⟩ := ixUp_range l.signs c l.signs.length
  by_cases hn : ixUp l.signs c l.signs.length = -1
  · rw [hn]
    unfold signIx
    have : l.signs.findIdx? (fun s => decide (s.code.data.toList = c)) = none := by
      rw [List.findIdx?_eq_none_iff]
      intro s hs
      obtain ⟨j, hj, rfl⟩ := List.getElem_of_mem hs
      simpa using h4 hn j _ hj (List.getElem?_eq_getElem hj)
    rw [this]
  · obtain ⟨s, hs, hc⟩ := h3 (by omega)
    have hcode : codeAt l (ixUp l.signs c l.signs.length) = c := by unfold codeAt; rw [hs]; exact hc
    have := ix_code h (k := ixUp l.signs c l.signs.length) (by omega) h2
    rw [hcode] at this
    exact this.symm
end Cd
namespace Go.Proofs.Ytenmkbpdkfhbjaa
open Go Go.RowKit Go.Maps
/-- the map behind the first k signs -/
def numsD (l : List Sg.Sign) : Nat → DataW Unit
  | 0 => .map []
  | k + 1 => match l[k]? with
    | some s => (numsD l k).put (.string s.code.data.toList) (.lit (.int .i64 k))
    | none => numsD l k
theorem numsD_map (l : List Sg.Sign) : ∀ k, IsMap (numsD l k)
  | 0 => isMap_empty
  | k + 1 => by
    unfold numsD
    cases l[k]? with
    | none => exact numsD_map l k
    | some s => exact (numsD_map l k).put _ _
theorem numsD_at (l : List Sg.Sign) (c : List UInt8) : ∀ k, (numsD l k).atKey (.string c) (.lit (.int .i64 0)) = .lit (.int .i64 (if Cd.ixUp l c k = -1 then 0 else Cd.ixUp l c k)) ∧ has (numsD l k) (.string c) = decide (Cd.ixUp l c k ≠ -1)
  | 0 => ⟨rfl, rfl⟩
  | k + 1 => by
    obtain ⟨h1, h2⟩ := numsD_at l c k
    cases hk : l[k]? with
    | none =>
      have e : Cd.ixUp l c (k + 1) = Cd.ixUp l c k := by rw [Cd.ixUp, hk]
      have d : numsD l (k + 1) = numsD l k := by rw [numsD, hk]
      rw [d, e]
      exact ⟨h1, h2⟩
    | some s =>
      have e : Cd.ixUp l c (k + 1) = if s.code.data.toList = c then (k : Int) else Cd.ixUp l c k := by rw [Cd.ixUp, hk]
      have d : numsD l (k + 1) = (numsD l k).put (.string s.code.data.toList) (.lit (.int .i64 k)) := by rw [numsD, hk]
      rw [d]
      by_cases hc : s.code.data.toList = c
      · have e' := e.trans (if_pos hc)
        subst hc
        rw [e', atKey_put_same (numsD_map l k) (by simp [WideAt.IsKeyLit]), has_put_same (numsD_map l k) (by simp [WideAt.IsKeyLit])]
        have hk1 : ¬ ((k : Int) = -1) := by omega
        exact ⟨by rw [if_neg hk1], by simp⟩
      · have e' := e.trans (if_neg hc)
        rw [e', atKey_put_other (fun e => hc (by injection e with e; exact e.symm)), has_put_other (fun e => hc (by injection e with e; exact e.symm))]
        exact ⟨h1, h2⟩
set_option maxRecDepth 100000 in
/-- the number of a code is looked up -/
theorem run_nums {w : World} {l : Sg.SList} (hl : Sg.checkV l = 0) {b n : Nat} (h : w.ownsMap Try.prog 9 (plainElem Try.prog 3) b n (numsD l.signs l.signs.length)) {c : ByteArray} (hc : c.size ≤ maxLen) :
    (Instr.lookup 60 (.map (some b)) (.string c) true).run Try.prog w = .ok (.tuple #[.int .i64 (if Cd.signIx l c.data.toList = -1 then 0 else Cd.signIx l c.data.toList), .bool (decide (Cd.signIx l c.data.toList ≠ -1))]) w := by
  obtain ⟨v, ps, hrun, hv⟩ := h.look_ok keyedS Try.underlying60 (zeroI w) (zd := .lit (.int .i64 0)) (zp := []) (plainElem_int Try.underlying3 (by decide)) (Go.WideMaps.keyOf_string_mk Try.underlying9 hc)
  obtain ⟨h1, h2⟩ := numsD_at l.signs c.data.toList l.signs.length
  rw [Cd.ixUp_sign hl] at h1 h2
  rw [h1] at hv
  rw [h2] at hrun
  obtain ⟨q, rfl, hq, -⟩ := plainElem_int_inv Try.underlying3 hv
  simp only [Prod.mk.injEq] at hq
  have hq1 : DataW.lit (Lit.int .i64 (if Cd.signIx l c.data.toList = -1 then 0 else Cd.signIx l c.data.toList)) = (.lit (.int .i64 q) : DataW Unit) := hq.1
  injection hq1 with hq2
  injection hq2 with _ hq3
  rw [hq3]
  exact hrun
end Go.Proofs.Ytenmkbpdkfhbjaa
