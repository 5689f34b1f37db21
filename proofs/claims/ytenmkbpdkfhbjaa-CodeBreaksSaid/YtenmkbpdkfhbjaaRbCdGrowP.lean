/- strings.Builder's WriteString and WriteByte: what lies beside the builder stays.; Items that code.grow makes: their signs stand in them.; Growing items, without fuel: plain. -/
import Derived.Test.YtenmkbpdkfhbjaaRbBuild
import Derived.Test.YtenmkbpdkfhbjaaRbSgLeaf
import Derived.Test.YtenmkbpdkfhbjaaRbCdNums
import Derived.Test.YtenmkbpdkfhbjaaRbTxEnd
import Derived.Test.YtenmkbpdkfhbjaaRbCdRep
namespace Go.Proofs.Ytenmkbpdkfhbjaa
open Go Go.RowKit

/-- blocks of other types than bytes stay, but for the builder's own -/
def Side (b : Nat) (w w' : World) : Prop := w.heap.size ≤ w'.heap.size ∧ ∀ k cs T fr, k ≠ b → T ≠ 5 → w.heap[k]? = some (.cells cs T fr) → w'.heap[k]? = some (.cells cs T fr)
theorem Side.refl (b : Nat) (w : World) : Side b w w := ⟨Nat.le_refl _, fun _ _ _ _ _ _ h => h⟩
theorem Side.trans {b : Nat} {w w' w'' : World} (h : Side b w w') (h' : Side b w' w'') : Side b w w'' := ⟨Nat.le_trans h.1 h'.1, fun k cs T fr hk hT h0 => h'.2 k cs T fr hk hT (h.2 k cs T fr hk hT h0)⟩
theorem Side.of {b : Nat} {w w' : World} (h : Below w.heap.size w w') : Side b w w' := ⟨h.size, fun k _ _ _ _ _ h0 => (h.block k (Array.getElem?_eq_some_iff.1 h0).1).trans h0⟩
theorem isB_below {B b : Nat} {bs : List Value} {w w' : World} (h : Lib.IsBuilder 85 5 B b bs w) (hb : Below w.heap.size w w') : Lib.IsBuilder 85 5 B b bs w' := by
  have key : ∀ p, Lib.BuilderAt 85 5 B b p bs w → Lib.BuilderAt 85 5 B b p bs w' := by
    rintro p ⟨hB, v, hbk, hown, hne⟩
    have hlt : b < w.heap.size := by
      rcases Nat.lt_or_ge b w.heap.size with h' | h'
      · exact h'
      · simp [Array.getElem?_eq_none h'] at hbk
    exact ⟨hB, v, (hb.block b hlt).trans hbk, keep_own hown hb, hne⟩
  exact h.elim (fun h => .inl (key _ h)) (fun h => .inr (key _ h))
theorem Side.set {b : Nat} (w : World) (o : Nat) (u : Value) : Side b w (w.setCell ⟨b, o, none⟩ u) := ⟨by simp [World.setCell], fun k cs T fr hk _ h0 => (Below.heap_setCell _ ⟨b, o, none⟩ _ _ (by exact hk)).trans h0⟩
theorem copyCheck_side (B b : Nat) (bs : List Value) (w : World) (h : Lib.IsBuilder 85 5 B b bs w) :
    Calls Try.prog 64 #[.pointer (some ⟨b, 0, none⟩)] w (fun e w' => e = .returned (.tuple #[]) ∧ Lib.BuilderAt 85 5 B b (.pointer (some ⟨b, 0, none⟩)) bs w' ∧ Below B w w' ∧ Side b w w') := by
  rcases h with h | h
  · refine (copyCheck_fresh b w h.cell0 h.shape h.frozen0).mono ?_
    rintro e w' ⟨rfl, rfl⟩
    exact ⟨rfl, h.used _, (Below.refl B w).setCell (p := ⟨b, 0, none⟩) h.1 _, Side.set w 0 _⟩
  · refine (copyCheck_used b w h.cell0).mono ?_
    rintro e w' ⟨rfl, rfl⟩
    exact ⟨rfl, h, Below.refl B _, Side.refl _ _⟩
/-- what WriteString leaves -/
def RetW (B b : Nat) (l : List UInt8) (n : Nat) (w : World) (e : Ending) (w' : World) : Prop := e = .returned (.tuple #[.int .i64 n, .nilIface]) ∧ Lib.IsBuilder 85 5 B b (Lib.byteCells l) w' ∧ Below B w w' ∧ Side b w w'
set_option maxRecDepth 100000 in
set_option maxHeartbeats 2000000 in
theorem gWrite_any (B b : Nat) (l : List UInt8) (s : ByteArray) (w : World) (h : Lib.IsBuilder 85 5 B b (Lib.byteCells l) w) (hlen : l.length + s.size ≤ 10000000) (hBw : B ≤ w.heap.size) :
    Calls Try.prog 61 #[.pointer (some ⟨b, 0, none⟩), .string s] w (RetW B b (l ++ s.data.toList) s.size w) := by
  obtain ⟨i0, hi, hz0, hz1, hz2⟩ := info_parts info_u8
  have hbl : (Lib.byteCells l).length = l.length := by simp [Lib.byteCells]
  unfold RetW
  rw [← cells_append]
  go_enter Try.func61, Try.ntmps61
  go_wp2_with fail
  refine (copyCheck_side B b (Lib.byteCells l) _ h).mono ?_
  rintro e w1 ⟨rfl, h1, hb1, hsd1⟩
  have HSD1 := Lib.hid hsd1
  clear hsd1
  obtain ⟨hB, v, hbk, hown, hne⟩ := h1
  have c0 : w1.cell? ⟨b, 0, none⟩ = some (.pointer (some ⟨b, 0, none⟩)) := by rw [Lib.cell_of_heap hbk]; rfl
  have c1 : w1.cell? ⟨b, 1, none⟩ = some v := by rw [Lib.cell_of_heap hbk]; rfl
  have hs1 := hb1.size
  go_wp2_with (at_builtin; refine Lib.wpList_append_own_string _ rfl _ _ 83 9 rfl B 5 i0 Try.underlying83 Try.underlying9 hi hz0 hz1 hz2 _ _ _ rfl hown s rfl ?c3 ?c4 ?c5 ?_)
  case c3 => unfold maxLen; omega
  case c4 => omega
  case c5 => omega
  intro v' w2 hown' hgrow _
  have hlt : b < w1.heap.size := by
    rcases Nat.lt_or_ge b w1.heap.size with h' | h'
    · exact h'
    · simp [Array.getElem?_eq_none h'] at hbk
  have hb2 : w2.heap[b]? = some (.cells #[.pointer (some ⟨b, 0, none⟩), v] 85 (0, 0)) := by
    rw [hgrow.block b hlt (fun e => hne e.symm)]
    exact hbk
  have hsd2 : Side b w1 w2 := ⟨hgrow.size, fun k cs T fr _ hT h0 => (hgrow.block k (Array.getElem?_eq_some_iff.1 h0).1 (fun e => by
    rcases hown.2 with ⟨rfl, -⟩ | ⟨g, cap, cur, rfl, -, hh, -⟩
    · cases e
    · have e' : k = g := by simpa [Value.ownBlock] using e
      subst e'
      rw [hh] at h0
      injection h0 with h0
      injection h0 with _ h0
      exact hT h0.symm)).trans h0⟩
  have HSD2 := Lib.hid hsd2
  have d0 : w2.cell? ⟨b, 0, none⟩ = some (.pointer (some ⟨b, 0, none⟩)) := by rw [Lib.cell_of_heap hb2]; rfl
  have d1 : w2.cell? ⟨b, 1, none⟩ = some v := by rw [Lib.cell_of_heap hb2]; rfl
  have f1 : w2.frozen? ⟨b, 1, none⟩ = false := Lib.frozen_of_heap hb2 1
  clear hsd2
  obtain ⟨ao, n', cap, rfl⟩ : ∃ ao n' cap, v' = .slice ao n' cap := by
    rcases hown'.2 with ⟨hv, _⟩ | ⟨g, cap, cur, hv, _⟩
    · exact ⟨_, _, _, hv⟩
    · exact ⟨_, _, _, hv⟩
  go_wp2_with fail
  go_ret2
  refine ⟨rfl, .inr ?_, ?_, (HSD1.out.trans HSD2.out).trans (Side.set w2 1 _)⟩
  · exact Lib.BuilderAt.put (T := 85) (e := 5) hB hb2 (bs' := Lib.byteCells l ++ Lib.strCells s) (by simpa [Lib.strCells_length, Lib.byteCells_length] using hown') (by decide)
  · exact (hb1.grown hgrow (by omega) (fun k hk => (hown.lt k hk).1)).setCell (p := ⟨b, 1, none⟩) hB _
/-- what WriteByte leaves -/
def RetWb (B b : Nat) (l : List UInt8) (w : World) (e : Ending) (w' : World) : Prop := e = .returned .nilIface ∧ Lib.IsBuilder 85 5 B b (Lib.byteCells l) w' ∧ Below B w w' ∧ Side b w w'
theorem byteCells_snoc (l : List UInt8) (c : UInt8) : Lib.byteCells l ++ [Value.int .u8 c.toNat] = Lib.byteCells (l ++ [c]) := by simp [Lib.byteCells]
set_option maxRecDepth 100000 in
set_option maxHeartbeats 2000000 in
theorem gWriteByte_any (B b : Nat) (l : List UInt8) (c : UInt8) (w : World) (h : Lib.IsBuilder 85 5 B b (Lib.byteCells l) w) (hlen : l.length + 1 ≤ 10000000) (hBw : B ≤ w.heap.size) :
    Calls Try.prog 96 #[.pointer (some ⟨b, 0, none⟩), .int .u8 c.toNat] w (RetWb B b (l ++ [c]) w) := by
  obtain ⟨i0, hi, hz0, hz1, hz2⟩ := info_parts info_u8
  have hbl : (Lib.byteCells l).length = l.length := by simp [Lib.byteCells]
  unfold RetWb
  rw [← byteCells_snoc]
  go_enter Try.func96, Try.ntmps96
  go_wp2_with fail
  refine (copyCheck_side B b (Lib.byteCells l) _ h).mono ?_
  rintro e w1 ⟨rfl, h1, hb1, hsd1⟩
  have HSD1 := Lib.hid hsd1
  clear hsd1
  obtain ⟨hB, v, hbk, hown, hne⟩ := h1
  have c0 : w1.cell? ⟨b, 0, none⟩ = some (.pointer (some ⟨b, 0, none⟩)) := by rw [Lib.cell_of_heap hbk]; rfl
  have c1 : w1.cell? ⟨b, 1, none⟩ = some v := by rw [Lib.cell_of_heap hbk]; rfl
  have hs1 := hb1.size
  go_wp2_with (at_builtin; refine wpList_append_own _ rfl _ _ 83 rfl B 5 i0 (.int .u8 0) 1 1 Try.underlying83 hi hz0 hz1 hz2 rfl (by decide) _ _ _ rfl (hown.alloc _) ⟨w1.heap.size, 0, none⟩ 1 1 [.int .u8 c.toNat] rfl rfl ?c1 ?c2 ?c3 ?c4 ?c5 ?_)
  case c1 =>
    intro j u hj
    match j, hj with
    | 0, hj => simp at hj; subst hj; simp [Addr.add]
  case c2 => intro u hu; simp at hu; subst hu; rfl
  case c3 => unfold maxLen; omega
  case c4 => omega
  case c5 => have := hb1.size; simp; omega
  intro v' w2 hown' hgrow _
  have hlt : b < w1.heap.size := by
    rcases Nat.lt_or_ge b w1.heap.size with h' | h'
    · exact h'
    · simp [Array.getElem?_eq_none h'] at hbk
  have hb2 : w2.heap[b]? = some (.cells #[.pointer (some ⟨b, 0, none⟩), v] 85 (0, 0)) := by
    rw [hgrow.block b (by simp; omega) (fun e => hne e.symm), Lib.alloc_old w1 _ b hlt]
    exact hbk
  have hsd2 : Side b w1 w2 := ⟨Nat.le_trans (by simp) hgrow.size, fun k cs T fr _ hT h0 => by
    have hk := (Array.getElem?_eq_some_iff.1 h0).1
    rw [hgrow.block k (by simp; omega) (fun e => by
      rcases hown.2 with ⟨rfl, -⟩ | ⟨g, cap, cur, rfl, -, hh, -⟩
      · cases e
      · have e' : k = g := by simpa [Value.ownBlock] using e
        subst e'
        rw [hh] at h0
        injection h0 with h0
        injection h0 with _ h0
        exact hT h0.symm), Lib.alloc_old w1 _ k hk]
    exact h0⟩
  have HSD2 := Lib.hid hsd2
  have d0 : w2.cell? ⟨b, 0, none⟩ = some (.pointer (some ⟨b, 0, none⟩)) := by rw [Lib.cell_of_heap hb2]; rfl
  have d1 : w2.cell? ⟨b, 1, none⟩ = some v := by rw [Lib.cell_of_heap hb2]; rfl
  have f1 : w2.frozen? ⟨b, 1, none⟩ = false := Lib.frozen_of_heap hb2 1
  have hb12 : Below B w1 w2 := ((Below.refl B w1).alloc (by omega) _).grown hgrow (by simp; omega) (fun k hk => (hown.lt k hk).1)
  have HB12 := Lib.hid hb12
  clear hsd2 hb12
  obtain ⟨ao, n', cap, rfl⟩ : ∃ ao n' cap, v' = .slice ao n' cap := by
    rcases hown'.2 with ⟨hv, _⟩ | ⟨g, cap, cur, hv, _⟩
    · exact ⟨_, _, _, hv⟩
    · exact ⟨_, _, _, hv⟩
  go_wp2_with fail
  go_ret
  refine ⟨rfl, .inr ?_, ?_, (HSD1.out.trans HSD2.out).trans (Side.set w2 1 _)⟩
  · exact Lib.BuilderAt.put (T := 85) (e := 5) hB hb2 (bs' := Lib.byteCells l ++ [.int .u8 c.toNat]) (by simpa [Lib.byteCells_length] using hown') (by decide)
  · exact (hb1.trans HB12.out).setCell (p := ⟨b, 1, none⟩) hB _
end Go.Proofs.Ytenmkbpdkfhbjaa
namespace Go.Proofs.Ytenmkbpdkfhbjaa
open Go Go.RowKit

/-- an item with its node as it is; d: how deep it is at most -/
def KGd : Nat → RowK Cd.Item
  | 0 => ⟨11, fun _ _ _ _ => False, fun h => h.elim, fun _ h => h.elim⟩
  | d + 1 => ⟨11, fun w ok cs x => ∃ v, cs = encN x.node ++ [.string (Cd.bs x.code), .int .i64 x.pos, v] ∧ RdH (KGd d) 76 w ok v x.kids,
    by rintro w ok cs x ⟨v, rfl, _⟩; rfl, by rintro w w' ok ok' cs x hk ⟨v, rfl, h2⟩; exact ⟨v, rfl, h2.keep hk⟩⟩
theorem kg_size (d : Nat) : (KGd d).size = 11 := by cases d <;> rfl
theorem kg_up {w : World} {ok : Nat → Prop} : ∀ (d d' : Nat), d ≤ d' → ∀ cs x, (KGd d).rd w ok cs x → (KGd d').rd w ok cs x
  | 0, _, _, _, _, h => h.elim
  | d + 1, 0, h, _, _, _ => by omega
  | d + 1, d' + 1, hd, cs, x, ⟨v, h0, h2⟩ => ⟨v, h0, h2.imp ((kg_size _).trans (kg_size _).symm) fun _ cs a _ ha => kg_up d d' (by omega) cs a ha⟩
def KG : RowK Cd.Item where
  size := 11
  rd w ok cs x := ∃ d, (KGd d).rd w ok cs x
  len := by rintro w ok cs x ⟨d, h⟩; exact ((KGd d).len h).trans (kg_size d)
  keep := by rintro w w' ok ok' cs x hk ⟨d, h⟩; exact ⟨d, (KGd d).keep hk h⟩
section
variable {w : World} {ok : Nat → Prop} {v : Value} {xs : List Cd.Item}
theorem RdH.deepG (h : RdH KG 76 w ok v xs) : ∃ d, RdH (KGd d) 76 w ok v xs := by
  obtain ⟨A, c, hv, hl, hc, hh⟩ := h
  by_cases h0 : 0 < xs.length
  · obtain ⟨b, cur, hA, hb, hcur, hcell⟩ := hh h0
    obtain ⟨D, hD⟩ := bound_all (P := fun i d => ∀ a, xs[i]? = some a → ∃ cs, (KGd d).rd w ok cs a ∧ ∀ (j : Nat) (u : Value), cs[j]? = some u → cur[i * 11 + j]? = some u)
      (fun i d d' hd h a ha => by obtain ⟨cs, h1, h2⟩ := h a ha; exact ⟨cs, kg_up d d' hd cs a h1, h2⟩) xs.length fun i hi => by
        obtain ⟨cs, ⟨d, h1⟩, h2⟩ := hcell i _ (List.getElem?_eq_getElem hi)
        exact ⟨d, fun a ha => by rw [List.getElem?_eq_getElem hi] at ha; cases ha; exact ⟨cs, h1, h2⟩⟩
    exact ⟨D, A, c, hv, hl, hc, fun _ => ⟨b, cur, hA, hb, hcur, fun i a ha => by rw [kg_size]; exact hD i (List.getElem?_eq_some_iff.1 ha).1 a ha⟩⟩
  · exact ⟨0, A, c, hv, hl, hc, fun h => absurd h h0⟩
theorem kg_mk {x : Cd.Item} (h : RdH KG 76 w ok v x.kids) : KG.rd w ok (encN x.node ++ [.string (Cd.bs x.code), .int .i64 x.pos, v]) x := by
  obtain ⟨d, hd⟩ := h.deepG
  exact ⟨d + 1, v, rfl, hd⟩
end
section
variable {w : World}
theorem wp_append_itemG {o : Oper} {a : Act} {K : Act → World → Prop} {Q : Exit → Act → World → Prop} (s x : Operand)
    (ho : o.op = .call { callee := .builtin .append, args := #[s, x], argTypes := #[47, 47] })
    (base : Nat) (v : Value) (xs : List Cd.Item) (y : Cd.Item) (hs : a.eval s = v) (hown : OwnG KG 76 w base v xs) (b c : Nat) (cs : List Value) (hx : a.eval x = .slice (some ⟨b, 0, none⟩) 1 c) (hc : 1 ≤ c ∧ c ≤ 9223372036854775807)
    (hb : w.heap[b]? = some (.cells cs.toArray 76 (0, 0))) (h1 : ∀ u ∈ cs, u.oneCell' = true) (hrd : KG.rd w (fun b => b < w.heap.size ∧ v.ownBlock ≠ some b ∧ base ≤ b) cs y) (hn : xs.length ≤ 2000000) (hbase : base ≤ w.heap.size)
    (h : ∀ v' w', OwnG KG 76 w' base v' (xs ++ [y]) → w.grownBy w' v.ownBlock → K (a.put o.dst v') w') : o.wp Try.prog a w K Q := by
  obtain ⟨i0, hi0, hz0, hs0, hb0⟩ := info_parts info_item
  obtain ⟨cells, hown, hg⟩ := hown
  have hl : cs.length = 11 := KG.len hrd
  refine wp_append_rd (enc := enc11) s x _ ho base 76 i0 _ 11 112 len_11 one_11 Try.underlying47 hi0 hz0 hs0 hb0 rfl (by decide) v xs.length cells hs hown w.heap.size _ [⟨cs, hl, h1⟩] hx ?_ (by simp [maxLen]; omega) (by simp; omega) hbase ?_
  · refine ⟨_, c, rfl, hc.1, hc.2, fun _ => ⟨b, 0, rfl, lt_of_some hb, fun i q hi j u hj => ?_⟩⟩
    cases i with
    | zero =>
      simp at hi
      subst hi
      rw [(in_box hb _).1]
      simpa [enc11] using hj
    | succ i => simp at hi
  · intro v' w' hown' hgw hat
    refine h v' w' (OwnG.snoc hg hrd (by have := hown'; simp only [List.length_singleton, List.flatMap_cons, List.flatMap_nil, List.append_nil] at this; exact this) hgw ?_) hgw
    rcases hat with e | e
    · exact .inl e
    · exact .inr ⟨_, e, Nat.le_refl _⟩
theorem wpList_append_itemG {ops : Array Oper} {rest : List Oper} {o : Oper} {a : Act} {Q : Exit → Act → World → Prop} (hgd : o.guard = none) (s x : Operand)
    (ho : o.op = .call { callee := .builtin .append, args := #[s, x], argTypes := #[47, 47] })
    (base : Nat) (v : Value) (xs : List Cd.Item) (y : Cd.Item) (hs : a.eval s = v) (hown : OwnG KG 76 w base v xs) (b c : Nat) (cs : List Value) (hx : a.eval x = .slice (some ⟨b, 0, none⟩) 1 c) (hc : 1 ≤ c ∧ c ≤ 9223372036854775807)
    (hb : w.heap[b]? = some (.cells cs.toArray 76 (0, 0))) (h1 : ∀ u ∈ cs, u.oneCell' = true) (hrd : KG.rd w (fun b => b < w.heap.size ∧ v.ownBlock ≠ some b ∧ base ≤ b) cs y) (hn : xs.length ≤ 2000000) (hbase : base ≤ w.heap.size)
    (h : ∀ v' w', OwnG KG 76 w' base v' (xs ++ [y]) → w.grownBy w' v.ownBlock → wpList Try.prog ops Q rest (a.put o.dst v') w') : wpList Try.prog ops Q (o :: rest) a w :=
  wpList_plain hgd fun _ hK => wp_append_itemG s x ho base v xs y hs hown b c cs hx hc hb h1 hrd hn hbase fun v' w' q1 q2 => hK _ _ (h v' w' q1 q2)
end
/-- the nodes behind the first one -/
theorem RdN.tail {w : World} {B : Nat} {A : Option Addr} {n : Tx.Node} {l : List Tx.Node} {c : Nat} (h : RdN w B (.slice A (n :: l).length c) (n :: l)) : ∃ b off, A = some ⟨b, off, none⟩ ∧ b < B ∧ RdN w B (.slice (some ⟨b, off + 8, none⟩) l.length (c - 1)) l := by
  obtain ⟨A', c', hv, hl, hc, hh⟩ := h
  cases hv
  obtain ⟨b, off, rfl, hb, hcell⟩ := hh (by simp)
  refine ⟨b, off, rfl, hb, some ⟨b, off + 8, none⟩, c - 1, rfl, by simp at hl; omega, by omega, fun h0 => ⟨b, off + 8, rfl, hb, fun i x hi j u hu => ?_⟩⟩
  have := hcell (i + 1) x (by simpa using hi) j u hu
  rw [show off + 8 + i * 8 + j = off + (i + 1) * 8 + j by omega]
  exact this
end Go.Proofs.Ytenmkbpdkfhbjaa
namespace Cd
open Go
theorem grow_len : ∀ (f : Nat) (d : Int) (l : List Tx.Node), (growV f d l).2.length ≤ l.length
  | 0, _, l => Nat.le_refl _
  | _ + 1, _, [] => Nat.le_refl _
  | f + 1, d, n :: l => by
    rw [growV]
    split
    · have h1 := grow_len f (d + 1) l
      have h2 := grow_len f d (growV f (d + 1) l).2
      rw [List.length_cons]
      exact Nat.le_trans h2 (Nat.le_succ_of_le h1)
    · exact Nat.le_refl _
theorem grow_fuel : ∀ (f g : Nat) (d : Int) (l : List Tx.Node), l.length ≤ f → l.length ≤ g → growV f d l = growV g d l
  | 0, g, d, l, h, _ => by
    have : l = [] := List.length_eq_zero_iff.1 (by omega)
    subst this
    rw [grow_nil, grow_nil]
  | f + 1, 0, d, l, _, h => by
    have : l = [] := List.length_eq_zero_iff.1 (by omega)
    subst this
    rw [grow_nil, grow_nil]
  | f + 1, g + 1, d, [], _, _ => by rw [grow_nil, grow_nil]
  | f + 1, g + 1, d, n :: l, h1, h2 => by
    rw [List.length_cons] at h1 h2
    rw [growV, growV, grow_fuel f g (d + 1) l (by omega) (by omega)]
    have h3 := grow_len g (d + 1) l
    rw [grow_fuel f g d (growV g (d + 1) l).2 (by omega) (by omega)]
/-- the items of the nodes from a depth on, and the nodes that are left -/
def growT (d : Int) (l : List Tx.Node) : List Item × List Tx.Node := growV l.length d l
theorem growT_of {f : Nat} {d : Int} {l : List Tx.Node} (h : l.length ≤ f) : growV f d l = growT d l := grow_fuel _ _ _ _ h (Nat.le_refl _)
theorem growT_len (d : Int) (l : List Tx.Node) : (growT d l).2.length ≤ l.length := grow_len _ _ _
theorem growT_stop {d : Int} {l : List Tx.Node} (h : ∀ n ∈ l.head?, n.depth < d) : growT d l = ([], l) := grow_stop h
theorem growT_cons {d : Int} {n : Tx.Node} {l : List Tx.Node} (h : d ≤ n.depth) : growT d (n :: l) = (Item.mk n [] 0 (growT (d + 1) l).1 :: (growT d (growT (d + 1) l).2).1, (growT d (growT (d + 1) l).2).2) := by
  unfold growT
  rw [List.length_cons, growV, if_pos h, growT_of (Nat.le_refl _)]
  have h1 := growT_len (d + 1) l
  rw [growT_of h1]
  rfl
end Cd
