/- Boxes of eight cells; isLeaf.; code.resolve's map of codes.; Signs are written into glyphs that were read.; code.resolve's visit: the signs of all glyphs. -/
import Derived.Test.YtenmkbpdkfhbjaaGreatRcTxFam
import Derived.StillTailTactics
import Derived.Test.YtenmkbpdkfhbjaaGreatRcSgSeen
import Derived.Test.YtenmkbpdkfhbjaaGreatRcCdKids
import Derived.Maps.OwnSet
import Derived.Deep.RegionWith
import Derived.Deep.CutBlock
import Derived.Deep.DeepCutAuto
import Derived.Deep.QuietTactic
import Derived.BigQuiet
namespace Go.Proofs.YtenmkbpdkfhbjaaGreat
open Go Go.RowKit

def RetE (v : Int) (w : World) (e : Ending) (w' : World) : Prop := e = .returned (.int .i64 v) ∧ Below w.heap.size w w'
theorem isLeaf_any (n : Tx.Node) (w : World) : Calls Tryz.prog 80 #[.agg (encN n).toArray] w (RetFam (Tx.leafB n.kind) w) := by
 obtain ⟨z1, hz1⟩ : ∃ z, (n.kind == 1) = z := ⟨_, rfl⟩
 obtain ⟨z2, hz2⟩ : ∃ z, (n.kind == 6) = z := ⟨_, rfl⟩
 have HV : Hid (Tx.leafB n.kind = (z1 || z2)) := Lib.hid (by rw [← hz1, ← hz2]; rfl)
 have HB : Hid (∀ o, Below w.heap.size w (w.alloc o)) := Lib.hid fun o => (Below.refl _ _).alloc (Nat.le_refl _) _
 unfold encN encNz
 cases z1 <;> cases z2 <;> (go_enter Tryz.func80, Tryz.ntmps80; go_wp2_with fail; go_ret; exact ⟨by rw [HV.out]; rfl, HB.out _⟩)
theorem alloc3 (w : World) (o0 o1 o2 : Obj) (W : World) (h : W = ((w.alloc o0).alloc o1).alloc o2) :
  W.heap.size = w.heap.size + 3 ∧ Below w.heap.size w W ∧ W.heap[w.heap.size]? = some o0 ∧ W.heap[w.heap.size + 1]? = some o1 ∧ W.heap[w.heap.size + 2]? = some o2 := by
 obtain ⟨W1, h1⟩ : ∃ X, X = (w.alloc o0).alloc o1 := ⟨_, rfl⟩
 have s1 : W1.heap.size = w.heap.size + 2 := by rw [h1]; simp
 have k2 : ∀ j, j < W1.heap.size → W.heap[j]? = W1.heap[j]? := fun j hj => by rw [h, ← h1]; exact Below.heap_alloc _ _ _ hj
 refine ⟨by rw [h]; simp, by rw [h]; exact (((Below.refl _ _).alloc (Nat.le_refl _) _).alloc (by simp) _).alloc (by simp; omega) _, (k2 _ (by omega)).trans (by rw [h1]; exact heap_alloc2_old _ _ _), (k2 _ (by omega)).trans (by rw [h1]; exact heap_alloc2_new _ _ _), ?_⟩
 rw [h, ← h1, ← s1]
 exact heap_alloc_new _ _
section
variable {W : World} {Z : Nat} {T : TypeId} {c0 c1 c2 c3 c4 c5 c6 c7 : Value}
theorem box8_cells (h : W.heap[Z]? = some (.cells #[c0, c1, c2, c3, c4, c5, c6, c7] T (0, 0))) :
  W.cell? ⟨Z, 0, none⟩ = some c0 ∧ W.cell? ⟨Z, 1, none⟩ = some c1 ∧ W.cell? ⟨Z, 2, none⟩ = some c2 ∧ W.cell? ⟨Z, 3, none⟩ = some c3 ∧ W.cell? ⟨Z, 4, none⟩ = some c4 ∧ W.cell? ⟨Z, 5, none⟩ = some c5 ∧ W.cell? ⟨Z, 6, none⟩ = some c6 ∧ W.cell? ⟨Z, 7, none⟩ = some c7 := by
 simp [World.cell?, h]
end
theorem box8_free {W : World} {Z : Nat} {T : TypeId} {cs : Array Value} (h : W.heap[Z]? = some (.cells cs T (0, 0))) : W.frozen? ⟨Z, 2, none⟩ = false ∧ W.frozen? ⟨Z, 3, none⟩ = false ∧ W.frozen? ⟨Z, 4, none⟩ = false ∧ W.frozen? ⟨Z, 5, none⟩ = false ∧ W.frozen? ⟨Z, 6, none⟩ = false ∧ W.frozen? ⟨Z, 7, none⟩ = false := by
 simp [World.frozen?, h]
theorem own_bounds {l : Sg.SList} {ns : List Tx.Node} {j : Nat} (h : Tx.ownAt l ns j = 0) : 0 ≤ (Tx.nd ns j).depth ∧ (Tx.nd ns j).depth ≤ 4 := by
 unfold Tx.ownAt Tx.ownV at h
 by_cases h1 : (Tx.nd ns j).kind < 1 ∨ 7 < (Tx.nd ns j).kind
 ·rw [if_pos h1] at h
  exact absurd h (by decide)
 ·rw [if_neg h1] at h
  by_cases h2 : (Tx.nd ns j).depth < 0 ∨ 4 < (Tx.nd ns j).depth ∨ Tx.most (if j = 0 then none else some (Tx.nd ns (j - 1))) < (Tx.nd ns j).depth
  ·rw [if_pos h2] at h
   exact absurd h (by decide)
  ·omega
end Go.Proofs.YtenmkbpdkfhbjaaGreat
namespace Cd
open Go
def ixUp (l : List Sg.Sign) (c : List UInt8) : Nat → Int
 | 0 => -1
 | k + 1 => match l[k]? with
  | some s => if s.code.data.toList = c then (k : Int) else ixUp l c k
  | none => ixUp l c k
theorem ixUp_range (l : List Sg.Sign) (c : List UInt8) : ∀ k : Nat, -1 ≤ ixUp l c k ∧ ixUp l c k < k ∧ (0 ≤ ixUp l c k → ∃ s, l[(ixUp l c k).toNat]? = some s ∧ s.code.data.toList = c) ∧ (ixUp l c k = -1 → ∀ j s, j < k → l[j]? = some s → s.code.data.toList ≠ c)
 | 0 => ⟨by simp [ixUp], by simp [ixUp], fun h => absurd h (by simp [ixUp]), fun _ j s h => absurd h (Nat.not_lt_zero j)⟩
 | k + 1 => by
  obtain ⟨h1, h2, h3, h4⟩ := ixUp_range l c k
  unfold ixUp
  cases hk : l[k]? with
  | none =>
   simp only
   refine ⟨h1, by omega, h3, fun e j s hj hs => ?_⟩
   rcases Nat.lt_or_ge j k with q | q
   ·exact h4 e j s q hs
   ·have : j = k := by omega
    subst this
    rw [hk] at hs; cases hs
  | some t =>
   simp only
   by_cases hc : t.code.data.toList = c
   ·rw [if_pos hc]
    exact ⟨by omega, by omega, fun _ => ⟨t, by simpa using hk, hc⟩, fun e => by omega⟩
   ·rw [if_neg hc]
    refine ⟨h1, by omega, h3, fun e j s hj hs => ?_⟩
    rcases Nat.lt_or_ge j k with q | q
    ·exact h4 e j s q hs
    ·have : j = k := by omega
     subst this
     rw [hk] at hs; cases hs; exact hc
theorem ixUp_sign {l : Sg.SList} (h : Sg.checkV l = 0) (c : List UInt8) : ixUp l.signs c l.signs.length = signIx l c := by
 obtain ⟨h1, h2, h3, h4⟩ := ixUp_range l.signs c l.signs.length
 by_cases hn : ixUp l.signs c l.signs.length = -1
 ·rw [hn]
  unfold signIx
  have : l.signs.findIdx? (fun s => decide (s.code.data.toList = c)) = none := by
   rw [List.findIdx?_eq_none_iff]
   intro s hs
   obtain ⟨j, hj, rfl⟩ := List.getElem_of_mem hs
   simpa using h4 hn j _ hj (List.getElem?_eq_getElem hj)
  rw [this]
 ·obtain ⟨s, hs, hc⟩ := h3 (by omega)
  have hcode : codeAt l (ixUp l.signs c l.signs.length) = c := by unfold codeAt; rw [hs]; exact hc
  have := ix_code h (k := ixUp l.signs c l.signs.length) (by omega) h2
  rw [hcode] at this
  exact this.symm
end Cd
namespace Go.Proofs.YtenmkbpdkfhbjaaGreat
open Go Go.RowKit Go.Maps
def numsD (l : List Sg.Sign) : Nat → DataW Unit
 | 0 => .map []
 | k + 1 => match l[k]? with
  | some s => (numsD l k).put (.string s.code.data.toList) (.lit (.int .i64 k))
  | none => numsD l k
theorem numsD_map (l : List Sg.Sign) : ∀ k, IsMap (numsD l k)
 | 0 => isMap_empty
 | k + 1 => by
  unfold numsD
  cases l[k]? with
  | none => exact numsD_map l k
  | some s => exact (numsD_map l k).put _ _
theorem numsD_at (l : List Sg.Sign) (c : List UInt8) : ∀ k, (numsD l k).atKey (.string c) (.lit (.int .i64 0)) = .lit (.int .i64 (if Cd.ixUp l c k = -1 then 0 else Cd.ixUp l c k)) ∧ has (numsD l k) (.string c) = decide (Cd.ixUp l c k ≠ -1)
 | 0 => ⟨rfl, rfl⟩
 | k + 1 => by
  obtain ⟨h1, h2⟩ := numsD_at l c k
  cases hk : l[k]? with
  | none =>
   have e : Cd.ixUp l c (k + 1) = Cd.ixUp l c k := by rw [Cd.ixUp, hk]
   have d : numsD l (k + 1) = numsD l k := by rw [numsD, hk]
   rw [d, e]
   exact ⟨h1, h2⟩
  | some s =>
   have e : Cd.ixUp l c (k + 1) = if s.code.data.toList = c then (k : Int) else Cd.ixUp l c k := by rw [Cd.ixUp, hk]
   have d : numsD l (k + 1) = (numsD l k).put (.string s.code.data.toList) (.lit (.int .i64 k)) := by rw [numsD, hk]
   rw [d]
   by_cases hc : s.code.data.toList = c
   ·have e' := e.trans (if_pos hc)
    subst hc
    rw [e', atKey_put_same (numsD_map l k) (by simp [WideAt.IsKeyLit]), has_put_same (numsD_map l k) (by simp [WideAt.IsKeyLit])]
    have hk1 : ¬ ((k : Int) = -1) := by omega
    exact ⟨by rw [if_neg hk1], by simp⟩
   ·have e' := e.trans (if_neg hc)
    rw [e', atKey_put_other (fun e => hc (by injection e with e; exact e.symm)), has_put_other (fun e => hc (by injection e with e; exact e.symm))]
    exact ⟨h1, h2⟩
set_option maxRecDepth 100000 in
theorem run_nums {w : World} {l : Sg.SList} (hl : Sg.checkV l = 0) {b n : Nat} (h : w.ownsMap Tryz.prog 9 (plainElem Tryz.prog 3) b n (numsD l.signs l.signs.length)) {c : ByteArray} (hc : c.size ≤ maxLen) :
  (Instr.lookup 100 (.map (some b)) (.string c) true).run Tryz.prog w = .ok (.tuple #[.int .i64 (if Cd.signIx l c.data.toList = -1 then 0 else Cd.signIx l c.data.toList), .bool (decide (Cd.signIx l c.data.toList ≠ -1))]) w := by
 obtain ⟨v, ps, hrun, hv⟩ := h.look_ok keyedS Tryz.underlying100 (zeroI w) (zd := .lit (.int .i64 0)) (zp := []) (plainElem_int Tryz.underlying3 (by decide)) (Go.WideMaps.keyOf_string_mk Tryz.underlying9 hc)
 obtain ⟨h1, h2⟩ := numsD_at l.signs c.data.toList l.signs.length
 rw [Cd.ixUp_sign hl] at h1 h2
 rw [h1] at hv
 rw [h2] at hrun
 obtain ⟨q, rfl, hq, -⟩ := plainElem_int_inv Tryz.underlying3 hv
 simp only [Prod.mk.injEq] at hq
 have hq1 : DataW.lit (Lit.int .i64 (if Cd.signIx l c.data.toList = -1 then 0 else Cd.signIx l c.data.toList)) = (.lit (.int .i64 q) : DataW Unit) := hq.1
 injection hq1 with hq2
 injection hq2 with _ hq3
 rw [hq3]
 exact hrun
end Go.Proofs.YtenmkbpdkfhbjaaGreat
namespace Go.Proofs.YtenmkbpdkfhbjaaGreat
open Go Go.RowKit

structure Upd (ok : Nat → Prop) (f : List UInt8 → Int) (w w' : World) : Prop where
 os : w'.os = w.os
 tape : w'.tape = w.tape
 output : w'.output = w.output
 size : w'.heap.size = w.heap.size
 only : ∀ b : Nat, ¬ ok b → w'.heap[b]? = w.heap[b]?
 block : ∀ b : Nat, w'.heap[b]? = w.heap[b]? ∨ ∃ cs cs' : Array Value, w.heap[b]? = some (Obj.cells cs 114 (0, 0)) ∧ w'.heap[b]? = some (Obj.cells cs' 114 (0, 0)) ∧
  ∀ i : Nat, cs'[i]? = cs[i]? ∨ ∃ (j : Nat) (code : ByteArray), i = j * 11 + 2 ∧ cs[j * 11]? = some (Value.int .i64 1) ∧ cs[j * 11 + 8]? = some (Value.string code) ∧ cs'[i]? = some (Value.int .i64 (f code.data.toList))
section
variable {okU : Nat → Prop} {f : List UInt8 → Int} {w w' w'' : World}
theorem Upd.refl (okU : Nat → Prop) (f : List UInt8 → Int) (w : World) : Upd okU f w w := ⟨rfl, rfl, rfl, rfl, fun _ _ => rfl, fun _ => .inl rfl⟩
theorem Upd.drew (h : Upd okU f w w') (n : Nat) : Upd okU f w (w'.drewN n) := ⟨h.os, h.tape, h.output, h.size, h.only, h.block⟩
theorem Upd.trans (h : Upd okU f w w') (k : Upd okU f w' w'') : Upd okU f w w'' := by
 refine ⟨k.os.trans h.os, k.tape.trans h.tape, k.output.trans h.output, k.size.trans h.size, fun b hb => (k.only b hb).trans (h.only b hb), fun b => ?_⟩
 rcases k.block b with e | ⟨cs, cs', h1, h2, h3⟩
 ·rcases h.block b with e' | ⟨cs, cs', h1, h2, h3⟩
  ·exact .inl (e.trans e')
  ·exact .inr ⟨cs, cs', h1, e.trans h2, h3⟩
 ·rcases h.block b with e' | ⟨ds, ds', g1, g2, g3⟩
  ·exact .inr ⟨cs, cs', e'.symm.trans h1, h2, h3⟩
  ·rw [g2] at h1
   injection h1 with h1
   injection h1 with h1 _ _
   subst h1
   refine .inr ⟨ds, cs', g1, h2, fun i => ?_⟩
   rcases h3 i with e | ⟨j, code, e1, e2, e3, e4⟩
   ·rcases g3 i with e' | ⟨j, code, e1, e2, e3, e4⟩
    ·exact .inl (e.trans e')
    ·exact .inr ⟨j, code, e1, e2, e3, e.trans e4⟩
   ·have n1 : ds[j * 11]? = some (.int .i64 1) := by
     rcases g3 (j * 11) with e' | ⟨j', code', q, -⟩
     ·rw [← e']; exact e2
     ·omega
    have n2 : ds[j * 11 + 8]? = some (.string code) := by
     rcases g3 (j * 11 + 8) with e' | ⟨j', code', q, -⟩
     ·rw [← e']; exact e3
     ·omega
    exact .inr ⟨j, code, e1, n1, n2, e4⟩
theorem Upd.other (h : Upd okU f w w') {b : Nat} {o : Obj} (hb : w.heap[b]? = some o) (ho : ∀ cs, o ≠ Obj.cells cs 114 (0, 0)) : w'.heap[b]? = some o := by
 rcases h.block b with e | ⟨cs, cs', h1, -⟩
 ·exact e.trans hb
 ·rw [hb] at h1
  injection h1 with h1
  exact absurd h1 (ho cs)
theorem Upd.set {b j : Nat} (hok : okU b) {cs : Array Value} {code : ByteArray} (hb : w.heap[b]? = some (.cells cs 114 (0, 0))) (h1 : cs[j * 11]? = some (.int .i64 1)) (h8 : cs[j * 11 + 8]? = some (.string code)) : Upd okU f w (w.setCell ⟨b, j * 11 + 2, none⟩ (.int .i64 (f code.data.toList))) := by
 refine ⟨rfl, rfl, rfl, size_set _ _ _, fun k hk => Below.heap_setCell _ ⟨b, j * 11 + 2, none⟩ _ _ (fun e => hk (e ▸ hok)), fun k => ?_⟩
 by_cases hk : k = b
 ·subst hk
  refine .inr ⟨cs, _, hb, Go.Joins.block_setCell hb _, fun i => ?_⟩
  by_cases hi : i = j * 11 + 2
  ·subst hi
   have hlt : j * 11 + 2 < cs.size := by have := (Array.getElem?_eq_some_iff.1 h8).1; omega
   exact .inr ⟨j, code, rfl, h1, h8, by simp [hlt]⟩
  ·left
   rw [Array.getElem?_setIfInBounds_ne (fun e => hi e.symm)]
 ·exact .inl (Below.heap_setCell _ ⟨b, j * 11 + 2, none⟩ _ _ hk)
theorem Upd.kid {S : List UInt8 → Int → Prop} (hS : ∀ c, S c (f c)) (h : Upd okU f w w') {ok : Nat → Prop} : ∀ (d : Nat) (v : Value) (xs : List Cd.Item), RdH (KId S d) 114 w ok v xs → RdH (KId S d) 114 w' ok v xs
 | 0, v, xs, ⟨A, c, hv, hl, hc, hh⟩ => by
  refine ⟨A, c, hv, hl, hc, fun h0 => ?_⟩
  obtain ⟨b, cur, -, -, -, hcell⟩ := hh h0
  obtain ⟨cs, hr, -⟩ := hcell 0 _ (List.getElem?_eq_getElem h0)
  exact hr.elim
 | d + 1, v, xs, ⟨A, c, hv, hl, hc, hh⟩ => by
  refine ⟨A, c, hv, hl, hc, fun h0 => ?_⟩
  obtain ⟨b, cur, hA, hb, hcur, hcell⟩ := hh h0
  rcases h.block b with e | ⟨cs, cs', h1, h2, h3⟩
  ·refine ⟨b, cur, hA, hb, e.trans hcur, fun i a ha => ?_⟩
   obtain ⟨cs, ⟨z, v, rfl, hz, hk⟩, hcs⟩ := hcell i a ha
   exact ⟨_, ⟨z, v, rfl, hz, h.kid hS d v a.kids hk⟩, hcs⟩
  ·rw [hcur] at h1
   injection h1 with h1
   injection h1 with h1 _ _
   subst h1
   refine ⟨b, cs', hA, hb, h2, fun i a ha => ?_⟩
   obtain ⟨ds, ⟨z, v, rfl, hz, hk⟩, hcs⟩ := hcell i a ha
   have k0 : cur[i * 11]? = some (.int .i64 a.node.kind) := by have := hcs 0 _ rfl; simpa [kid_size] using this
   have k2 : cur[i * 11 + 2]? = some (.int .i64 z) := hcs 2 _ rfl
   have k8 : cur[i * 11 + 8]? = some (.string (Cd.bs a.code)) := hcs 8 _ rfl
   have same : ∀ t, t < 11 → t ≠ 2 → cs'[i * 11 + t]? = cur[i * 11 + t]? := fun t ht h2 => by
    rcases h3 (i * 11 + t) with e | ⟨j, code, e1, -⟩
    ·exact e
    ·omega
   have hz' : ∃ z', cs'[i * 11 + 2]? = some (.int .i64 z') ∧ (if a.node.kind = 1 then S a.code z' else z' = a.node.sign) := by
    rcases h3 (i * 11 + 2) with e | ⟨j, code, e1, e2, e3, e4⟩
    ·exact ⟨z, e.trans k2, hz⟩
    ·have hj : j = i := by omega
     subst hj
     rw [k0] at e2
     rw [k8] at e3
     injection e2 with e2
     injection e2 with _ e2
     injection e3 with e3
     injection e3 with e3
     refine ⟨_, e4, ?_⟩
     rw [if_pos e2, ← e3]
     exact hS _
   obtain ⟨z', hz1, hz2⟩ := hz'
   refine ⟨_, ⟨z', v, rfl, hz2, h.kid hS d v a.kids hk⟩, fun t u ht => ?_⟩
   have hlt := (List.getElem?_eq_some_iff.1 ht).1
   simp [encNz] at hlt
   have q : ∀ t u, (encNz a.node z ++ [Value.string (Cd.bs a.code), .int .i64 a.pos, v])[t]? = some u → cur[i * 11 + t]? = some u := fun t u hh => hcs t u hh
   show cs'[i * 11 + t]? = some u
   rcases (show t = 0 ∨ t = 1 ∨ t = 2 ∨ t = 3 ∨ t = 4 ∨ t = 5 ∨ t = 6 ∨ t = 7 ∨ t = 8 ∨ t = 9 ∨ t = 10 by omega) with rfl | rfl | rfl | rfl | rfl | rfl | rfl | rfl | rfl | rfl | rfl
   all_goals first
    | exact (same _ (by decide) (by decide)).trans (q _ u ht)
    | (rw [hz1]; exact ht)
end
end Go.Proofs.YtenmkbpdkfhbjaaGreat
namespace Cd
theorem unknown_app (l : Sg.SList) (a b : List (List UInt8 × Nat)) : unknownV l (a ++ b) = match unknownV l a with
  | some k => some k
  | none => unknownV l b := by
 unfold unknownV
 rw [List.find?_append]
 cases a.find? (fun q => decide (signIx l q.1 = -1)) <;> rfl
theorem codesL_app : ∀ (a b : List Item), codesL (a ++ b) = codesL a ++ codesL b
 | [], b => by rw [codesL]; rfl
 | x :: a, b => by rw [List.cons_append, codesL, codesL, codesL_app a b, List.append_assoc]
end Cd
namespace Go.Proofs.YtenmkbpdkfhbjaaGreat
open Go Go.RowKit

def SW (f : List UInt8 → Int) (c : List UInt8) (z : Int) : Prop := z = 0 ∨ z = f c
def SF (f : List UInt8 → Int) (c : List UInt8) (z : Int) : Prop := z = f c
structure VEnv (l : Sg.SList) (b1 b2 : Nat) (W : World) : Prop where
 num : ∃ bm n, W.heap[b1]? = some (.cells #[.map (some bm)] 100 (0, 0)) ∧ W.ownsMap Tryz.prog 9 (plainElem Tryz.prog 3) bm n (numsD l.signs l.signs.length)
 vis : W.heap[b2]? = some (.cells #[.func (.func 62) #[] #[.pointer (some ⟨b1, 0, none⟩), .pointer (some ⟨b2, 0, none⟩)]] 111 (0, 0))
theorem VEnv.upd {l : Sg.SList} {b1 b2 : Nat} {okU : Nat → Prop} {f : List UInt8 → Int} {W W' : World} (h : VEnv l b1 b2 W) (hu : Upd okU f W W') : VEnv l b1 b2 W' := by
 obtain ⟨⟨bm, n, h1, h2⟩, h3⟩ := h
 refine ⟨⟨bm, n, hu.other h1 (fun cs e => by injection e with _ e _; exact absurd e (by decide)), ?_⟩, hu.other h3 (fun cs e => by injection e with _ e _; exact absurd e (by decide))⟩
 obtain ⟨es, clock, q1, q2⟩ := h2
 exact ⟨es, clock, hu.other q1 (fun cs e => by cases e), q2⟩
section
variable {okU : Nat → Prop} {f : List UInt8 → Int} {w w' : World}
theorem Upd.sign (h : Upd okU f w w') {b j : Nat} {cs : Array Value} {code : ByteArray} (hb : w.heap[b]? = some (.cells cs 114 (0, 0))) (h8 : cs[j * 11 + 8]? = some (.string code)) (h2 : cs[j * 11 + 2]? = some (.int .i64 (f code.data.toList))) :
  ∃ cs', w'.heap[b]? = some (.cells cs' 114 (0, 0)) ∧ cs'[j * 11 + 2]? = some (.int .i64 (f code.data.toList)) := by
 rcases h.block b with e | ⟨ds, ds', g1, g2, g3⟩
 ·exact ⟨cs, e.trans hb, h2⟩
 ·rw [hb] at g1
  injection g1 with g1
  injection g1 with g1 _ _
  subst g1
  refine ⟨ds', g2, ?_⟩
  rcases g3 (j * 11 + 2) with e | ⟨j', code', e1, e2, e3, e4⟩
  ·exact e.trans h2
  ·have : j' = j := by omega
   subst this
   rw [h8] at e3
   injection e3 with e3
   injection e3 with e3
   subst e3
   exact e4
end
theorem Upd.row {okU : Nat → Prop} {f : List UInt8 → Int} {w w' : World} (h : Upd okU f w w') {b i : Nat} {cur : Array Value} {x : Cd.Item} {z : Int} {v : Value} (hb : w.heap[b]? = some (.cells cur 114 (0, 0)))
  (hcs : ∀ (j : Nat) (u : Value), (encNz x.node z ++ [Value.string (Cd.bs x.code), .int .i64 x.pos, v])[j]? = some u → cur[i * 11 + j]? = some u) :
  ∃ (cur' : Array Value) (z' : Int), w'.heap[b]? = some (.cells cur' 114 (0, 0)) ∧ (∀ (j : Nat) (u : Value), (encNz x.node z' ++ [Value.string (Cd.bs x.code), .int .i64 x.pos, v])[j]? = some u → cur'[i * 11 + j]? = some u) ∧ (z' = z ∨ (x.node.kind = 1 ∧ z' = f x.code)) := by
 rcases h.block b with e | ⟨ds, ds', g1, g2, g3⟩
 ·exact ⟨cur, z, e.trans hb, hcs, .inl rfl⟩
 ·rw [hb] at g1
  injection g1 with g1
  injection g1 with g1 _ _
  subst g1
  have k0 : cur[i * 11]? = some (.int .i64 x.node.kind) := by have := hcs 0 _ rfl; simpa using this
  have k2 : cur[i * 11 + 2]? = some (.int .i64 z) := hcs 2 _ rfl
  have k8 : cur[i * 11 + 8]? = some (.string (Cd.bs x.code)) := hcs 8 _ rfl
  have same : ∀ t, t < 11 → t ≠ 2 → ds'[i * 11 + t]? = cur[i * 11 + t]? := fun t ht h2 => by
   rcases g3 (i * 11 + t) with e | ⟨j, code, e1, -⟩
   ·exact e
   ·omega
  have hz' : ∃ z', ds'[i * 11 + 2]? = some (.int .i64 z') ∧ (z' = z ∨ (x.node.kind = 1 ∧ z' = f x.code)) := by
   rcases g3 (i * 11 + 2) with e | ⟨j, code, e1, e2, e3, e4⟩
   ·exact ⟨z, e.trans k2, .inl rfl⟩
   ·have hj : j = i := by omega
    subst hj
    rw [k0] at e2
    rw [k8] at e3
    injection e2 with e2
    injection e2 with _ e2
    injection e3 with e3
    injection e3 with e3
    exact ⟨_, e4, .inr ⟨e2, by rw [← e3]; rfl⟩⟩
  obtain ⟨z', hz1, hz2⟩ := hz'
  refine ⟨ds', z', g2, fun t u ht => ?_, hz2⟩
  have hlt := (List.getElem?_eq_some_iff.1 ht).1
  simp [encNz] at hlt
  rcases (show t = 0 ∨ t = 1 ∨ t = 2 ∨ t = 3 ∨ t = 4 ∨ t = 5 ∨ t = 6 ∨ t = 7 ∨ t = 8 ∨ t = 9 ∨ t = 10 by omega) with rfl | rfl | rfl | rfl | rfl | rfl | rfl | rfl | rfl | rfl | rfl
  all_goals first
   | exact (same _ (by decide) (by decide)).trans (hcs _ u ht)
   | (rw [hz1]; exact ht)
theorem RdH.grow {S : List UInt8 → Int → Prop} {d : Nat} {w : World} {ok : Nat → Prop} {A : Option Addr} {i c b : Nat} {cur : Array Value} {xs : List Cd.Item} {x : Cd.Item} {cs : List Value} (h : RdH (KId S d) 114 w ok (.slice A i c) (xs.take i)) (hA : A = some ⟨b, 0, none⟩) (hok : ok b) (hb : w.heap[b]? = some (.cells cur 114 (0, 0)))
  (hx : xs[i]? = some x) (hr : (KId S d).rd w ok cs x) (hcs : ∀ (j : Nat) (u : Value), cs[j]? = some u → cur[i * 11 + j]? = some u) (hic : i + 1 ≤ c) (hc : c ≤ 9223372036854775807) : RdH (KId S d) 114 w ok (.slice A (i + 1) c) (xs.take (i + 1)) := by
 have hil := (List.getElem?_eq_some_iff.1 hx).1
 obtain ⟨A', c', hv, -, -, hh⟩ := h
 injection hv with hvA _ _
 subst hvA
 refine ⟨A, c, by rw [List.length_take, Nat.min_eq_left hil], by rw [List.length_take, Nat.min_eq_left hil]; exact hic, hc, fun _ => ⟨b, cur, hA, hok, hb, fun j a ha => ?_⟩⟩
 rw [List.getElem?_take] at ha
 split at ha
 ·rename_i hj
  rcases Nat.lt_or_ge j i with q | q
  ·have ha' : (xs.take i)[j]? = some a := by rw [List.getElem?_take, if_pos q]; exact ha
   obtain ⟨b', cur', hA', -, hb', hcell⟩ := hh (by rw [List.length_take]; omega)
   rw [hA] at hA'
   injection hA' with hA'
   injection hA' with hA'
   subst hA'
   rw [hb] at hb'
   injection hb' with hb'
   injection hb' with hb' _ _
   subst hb'
   exact hcell j a ha'
  ·have : j = i := by omega
   subst this
   rw [hx] at ha
   cases ha
   exact ⟨cs, hr, by rw [kid_size]; exact hcs⟩
 ·cases ha
theorem RdH.one_at {S : List UInt8 → Int → Prop} {d : Nat} {w : World} {ok : Nat → Prop} {A : Option Addr} {n c : Nat} {xs : List Cd.Item} (h : RdH (KId S d) 114 w ok (.slice A n c) xs) {i : Nat} {x : Cd.Item} (hi : xs[i]? = some x) :
  ∃ e b cur z A' c', d = e + 1 ∧ A = some ⟨b, 0, none⟩ ∧ ok b ∧ w.heap[b]? = some (.cells cur 114 (0, 0)) ∧ (if x.node.kind = 1 then S x.code z else z = x.node.sign) ∧ RdH (KId S e) 114 w ok (.slice A' x.kids.length c') x.kids ∧
   (∀ (j : Nat) (u : Value), (encNz x.node z ++ [Value.string (Cd.bs x.code), .int .i64 x.pos, .slice A' x.kids.length c'])[j]? = some u → cur[i * 11 + j]? = some u) := by
 obtain ⟨A0, c0, hv, hl, hc, hh⟩ := h
 cases hv
 obtain ⟨b, cur, hA, hb, hcur, hcell⟩ := hh (by have := (List.getElem?_eq_some_iff.1 hi).1; omega)
 obtain ⟨cs, hrd, hcs⟩ := hcell i x hi
 cases d with
 | zero => exact hrd.elim
 | succ e =>
  obtain ⟨z, v, rfl, hz, hk⟩ := hrd
  obtain ⟨A', c', rfl⟩ := hk.form
  exact ⟨e, b, cur, z, A', c', rfl, hA, hb, hcur, hz, hk, hcs⟩
def RetVis (l : Sg.SList) (d : Nat) (ok : Nat → Prop) (A : Option Addr) (c : Nat) (xs : List Cd.Item) (W : World) (e : Ending) (W' : World) : Prop :=
 Upd ok (Cd.signIx l) W W' ∧ match Cd.unknownV l (Cd.codesL xs) with
  | some k => e = .returned (.int .i64 k)
  | none => e = .returned (.int .i64 (-1)) ∧ RdH (KId (SF (Cd.signIx l)) d) 114 W' ok (.slice A xs.length c) xs
end Go.Proofs.YtenmkbpdkfhbjaaGreat
