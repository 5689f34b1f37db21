/- Signs are written into glyphs that were read.; code.resolve's visit: the signs of all glyphs. -/
import Derived.Test.YtenmkbpdkfhbjaaRbCdNums
import Derived.Deep.RegionWith
import Derived.Deep.CutBlock
import Derived.Deep.DeepCutAuto
import Derived.Deep.QuietTactic
import Derived.BigQuiet
namespace Go.Proofs.Ytenmkbpdkfhbjaa
open Go Go.RowKit

/-- w' is w, but glyphs' signs may have been set to what f says of their codes -/
structure Upd (ok : Nat → Prop) (f : List UInt8 → Int) (w w' : World) : Prop where
  os : w'.os = w.os
  tape : w'.tape = w.tape
  output : w'.output = w.output
  size : w'.heap.size = w.heap.size
  only : ∀ b : Nat, ¬ ok b → w'.heap[b]? = w.heap[b]?
  block : ∀ b : Nat, w'.heap[b]? = w.heap[b]? ∨ ∃ cs cs' : Array Value, w.heap[b]? = some (Obj.cells cs 76 (0, 0)) ∧ w'.heap[b]? = some (Obj.cells cs' 76 (0, 0)) ∧
    ∀ i : Nat, cs'[i]? = cs[i]? ∨ ∃ (j : Nat) (code : ByteArray), i = j * 11 + 2 ∧ cs[j * 11]? = some (Value.int .i64 1) ∧ cs[j * 11 + 8]? = some (Value.string code) ∧ cs'[i]? = some (Value.int .i64 (f code.data.toList))
section
variable {okU : Nat → Prop} {f : List UInt8 → Int} {w w' w'' : World}
theorem Upd.refl (okU : Nat → Prop) (f : List UInt8 → Int) (w : World) : Upd okU f w w := ⟨rfl, rfl, rfl, rfl, fun _ _ => rfl, fun _ => .inl rfl⟩
theorem Upd.drew (h : Upd okU f w w') (n : Nat) : Upd okU f w (w'.drewN n) := ⟨h.os, h.tape, h.output, h.size, h.only, h.block⟩
theorem Upd.trans (h : Upd okU f w w') (k : Upd okU f w' w'') : Upd okU f w w'' := by
  refine ⟨k.os.trans h.os, k.tape.trans h.tape, k.output.trans h.output, k.size.trans h.size, fun b hb => (k.only b hb).trans (h.only b hb), fun b => ?_⟩
  rcases k.block b with e | ⟨cs, cs', h1, h2, h3⟩
  · rcases h.block b with e' | ⟨cs, cs', h1, h2, h3⟩
    · exact .inl (e.trans e')
    · exact .inr ⟨cs, cs', h1, e.trans h2, h3⟩
  · rcases h.block b with e' | ⟨ds, ds', g1, g2, g3⟩
    · exact .inr ⟨cs, cs', e'.symm.trans h1, h2, h3⟩
    · rw [g2] at h1
      injection h1 with h1
      injection h1 with h1 _ _
      subst h1
      refine .inr ⟨ds, cs', g1, h2, fun i => ?_⟩
      rcases h3 i with e | ⟨j, code, e1, e2, e3, e4⟩
      · rcases g3 i with e' | ⟨j, code, e1, e2, e3, e4⟩
        · exact .inl (e.trans e')
        · exact .inr ⟨j, code, e1, e2, e3, e.trans e4⟩
      · have n1 : ds[j * 11]? = some (.int .i64 1) := by
          rcases g3 (j * 11) with e' | ⟨j', code', q, -⟩
          · rw [← e']; exact e2
          · omega
        have n2 : ds[j * 11 + 8]? = some (.string code) := by
          rcases g3 (j * 11 + 8) with e' | ⟨j', code', q, -⟩
          · rw [← e']; exact e3
          · omega
        exact .inr ⟨j, code, e1, n1, n2, e4⟩
/-- blocks of other types stay -/
theorem Upd.other (h : Upd okU f w w') {b : Nat} {o : Obj} (hb : w.heap[b]? = some o) (ho : ∀ cs, o ≠ Obj.cells cs 76 (0, 0)) : w'.heap[b]? = some o := by
  rcases h.block b with e | ⟨cs, cs', h1, -⟩
  · exact e.trans hb
  · rw [hb] at h1
    injection h1 with h1
    exact absurd h1 (ho cs)
/-- a sign is set -/
theorem Upd.set {b j : Nat} (hok : okU b) {cs : Array Value} {code : ByteArray} (hb : w.heap[b]? = some (.cells cs 76 (0, 0))) (h1 : cs[j * 11]? = some (.int .i64 1)) (h8 : cs[j * 11 + 8]? = some (.string code)) : Upd okU f w (w.setCell ⟨b, j * 11 + 2, none⟩ (.int .i64 (f code.data.toList))) := by
  refine ⟨rfl, rfl, rfl, size_set _ _ _, fun k hk => Below.heap_setCell _ ⟨b, j * 11 + 2, none⟩ _ _ (fun e => hk (e ▸ hok)), fun k => ?_⟩
  by_cases hk : k = b
  · subst hk
    refine .inr ⟨cs, _, hb, Go.Joins.block_setCell hb _, fun i => ?_⟩
    by_cases hi : i = j * 11 + 2
    · subst hi
      have hlt : j * 11 + 2 < cs.size := by have := (Array.getElem?_eq_some_iff.1 h8).1; omega
      exact .inr ⟨j, code, rfl, h1, h8, by simp [hlt]⟩
    · left
      rw [Array.getElem?_setIfInBounds_ne (fun e => hi e.symm)]
  · exact .inl (Below.heap_setCell _ ⟨b, j * 11 + 2, none⟩ _ _ hk)
/-- what was read reads on -/
theorem Upd.kid {S : List UInt8 → Int → Prop} (hS : ∀ c, S c (f c)) (h : Upd okU f w w') {ok : Nat → Prop} : ∀ (d : Nat) (v : Value) (xs : List Cd.Item), RdH (KId S d) 76 w ok v xs → RdH (KId S d) 76 w' ok v xs
  | 0, v, xs, ⟨A, c, hv, hl, hc, hh⟩ => by
    refine ⟨A, c, hv, hl, hc, fun h0 => ?_⟩
    obtain ⟨b, cur, -, -, -, hcell⟩ := hh h0
    obtain ⟨cs, hr, -⟩ := hcell 0 _ (List.getElem?_eq_getElem h0)
    exact hr.elim
  | d + 1, v, xs, ⟨A, c, hv, hl, hc, hh⟩ => by
    refine ⟨A, c, hv, hl, hc, fun h0 => ?_⟩
    obtain ⟨b, cur, hA, hb, hcur, hcell⟩ := hh h0
    rcases h.block b with e | ⟨cs, cs', h1, h2, h3⟩
    · refine ⟨b, cur, hA, hb, e.trans hcur, fun i a ha => ?_⟩
      obtain ⟨cs, ⟨z, v, rfl, hz, hk⟩, hcs⟩ := hcell i a ha
      exact ⟨_, ⟨z, v, rfl, hz, h.kid hS d v a.kids hk⟩, hcs⟩
    · rw [hcur] at h1
      injection h1 with h1
      injection h1 with h1 _ _
      subst h1
      refine ⟨b, cs', hA, hb, h2, fun i a ha => ?_⟩
      obtain ⟨ds, ⟨z, v, rfl, hz, hk⟩, hcs⟩ := hcell i a ha
      have k0 : cur[i * 11]? = some (.int .i64 a.node.kind) := by have := hcs 0 _ rfl; simpa [kid_size] using this
      have k2 : cur[i * 11 + 2]? = some (.int .i64 z) := hcs 2 _ rfl
      have k8 : cur[i * 11 + 8]? = some (.string (Cd.bs a.code)) := hcs 8 _ rfl
      have same : ∀ t, t < 11 → t ≠ 2 → cs'[i * 11 + t]? = cur[i * 11 + t]? := fun t ht h2 => by
        rcases h3 (i * 11 + t) with e | ⟨j, code, e1, -⟩
        · exact e
        · omega
      -- the sign that now stands there
      have hz' : ∃ z', cs'[i * 11 + 2]? = some (.int .i64 z') ∧ (if a.node.kind = 1 then S a.code z' else z' = a.node.sign) := by
        rcases h3 (i * 11 + 2) with e | ⟨j, code, e1, e2, e3, e4⟩
        · exact ⟨z, e.trans k2, hz⟩
        · have hj : j = i := by omega
          subst hj
          rw [k0] at e2
          rw [k8] at e3
          injection e2 with e2
          injection e2 with _ e2
          injection e3 with e3
          injection e3 with e3
          refine ⟨_, e4, ?_⟩
          rw [if_pos e2, ← e3]
          exact hS _
      obtain ⟨z', hz1, hz2⟩ := hz'
      refine ⟨_, ⟨z', v, rfl, hz2, h.kid hS d v a.kids hk⟩, fun t u ht => ?_⟩
      have hlt := (List.getElem?_eq_some_iff.1 ht).1
      simp [encNz] at hlt
      have q : ∀ t u, (encNz a.node z ++ [Value.string (Cd.bs a.code), .int .i64 a.pos, v])[t]? = some u → cur[i * 11 + t]? = some u := fun t u hh => hcs t u hh
      show cs'[i * 11 + t]? = some u
      rcases (show t = 0 ∨ t = 1 ∨ t = 2 ∨ t = 3 ∨ t = 4 ∨ t = 5 ∨ t = 6 ∨ t = 7 ∨ t = 8 ∨ t = 9 ∨ t = 10 by omega) with rfl | rfl | rfl | rfl | rfl | rfl | rfl | rfl | rfl | rfl | rfl
      all_goals first
        | exact (same _ (by decide) (by decide)).trans (q _ u ht)
        | (rw [hz1]; exact ht)
end
end Go.Proofs.Ytenmkbpdkfhbjaa
namespace Cd
theorem unknown_app (l : Sg.SList) (a b : List (List UInt8 × Nat)) : unknownV l (a ++ b) = match unknownV l a with
    | some k => some k
    | none => unknownV l b := by
  unfold unknownV
  rw [List.find?_append]
  cases a.find? (fun q => decide (signIx l q.1 = -1)) <;> rfl
theorem codesL_app : ∀ (a b : List Item), codesL (a ++ b) = codesL a ++ codesL b
  | [], b => by rw [codesL]; rfl
  | x :: a, b => by rw [List.cons_append, codesL, codesL, codesL_app a b, List.append_assoc]
end Cd
namespace Go.Proofs.Ytenmkbpdkfhbjaa
open Go Go.RowKit

/-- the sign of a glyph: not yet set, or set -/
def SW (f : List UInt8 → Int) (c : List UInt8) (z : Int) : Prop := z = 0 ∨ z = f c
def SF (f : List UInt8 → Int) (c : List UInt8) (z : Int) : Prop := z = f c
/-- what visit captured -/
structure VEnv (l : Sg.SList) (b1 b2 : Nat) (W : World) : Prop where
  num : ∃ bm n, W.heap[b1]? = some (.cells #[.map (some bm)] 60 (0, 0)) ∧ W.ownsMap Try.prog 9 (plainElem Try.prog 3) bm n (numsD l.signs l.signs.length)
  vis : W.heap[b2]? = some (.cells #[.func (.func 23) #[] #[.pointer (some ⟨b1, 0, none⟩), .pointer (some ⟨b2, 0, none⟩)]] 71 (0, 0))
theorem VEnv.upd {l : Sg.SList} {b1 b2 : Nat} {okU : Nat → Prop} {f : List UInt8 → Int} {W W' : World} (h : VEnv l b1 b2 W) (hu : Upd okU f W W') : VEnv l b1 b2 W' := by
  obtain ⟨⟨bm, n, h1, h2⟩, h3⟩ := h
  refine ⟨⟨bm, n, hu.other h1 (fun cs e => by injection e with _ e _; exact absurd e (by decide)), ?_⟩, hu.other h3 (fun cs e => by injection e with _ e _; exact absurd e (by decide))⟩
  obtain ⟨es, clock, q1, q2⟩ := h2
  exact ⟨es, clock, hu.other q1 (fun cs e => by cases e), q2⟩
section
variable {okU : Nat → Prop} {f : List UInt8 → Int} {w w' : World}
theorem Upd.sign (h : Upd okU f w w') {b j : Nat} {cs : Array Value} {code : ByteArray} (hb : w.heap[b]? = some (.cells cs 76 (0, 0))) (h8 : cs[j * 11 + 8]? = some (.string code)) (h2 : cs[j * 11 + 2]? = some (.int .i64 (f code.data.toList))) :
    ∃ cs', w'.heap[b]? = some (.cells cs' 76 (0, 0)) ∧ cs'[j * 11 + 2]? = some (.int .i64 (f code.data.toList)) := by
  rcases h.block b with e | ⟨ds, ds', g1, g2, g3⟩
  · exact ⟨cs, e.trans hb, h2⟩
  · rw [hb] at g1
    injection g1 with g1
    injection g1 with g1 _ _
    subst g1
    refine ⟨ds', g2, ?_⟩
    rcases g3 (j * 11 + 2) with e | ⟨j', code', e1, e2, e3, e4⟩
    · exact e.trans h2
    · have : j' = j := by omega
      subst this
      rw [h8] at e3
      injection e3 with e3
      injection e3 with e3
      subst e3
      exact e4
end
theorem Upd.row {okU : Nat → Prop} {f : List UInt8 → Int} {w w' : World} (h : Upd okU f w w') {b i : Nat} {cur : Array Value} {x : Cd.Item} {z : Int} {v : Value} (hb : w.heap[b]? = some (.cells cur 76 (0, 0)))
    (hcs : ∀ (j : Nat) (u : Value), (encNz x.node z ++ [Value.string (Cd.bs x.code), .int .i64 x.pos, v])[j]? = some u → cur[i * 11 + j]? = some u) :
    ∃ (cur' : Array Value) (z' : Int), w'.heap[b]? = some (.cells cur' 76 (0, 0)) ∧ (∀ (j : Nat) (u : Value), (encNz x.node z' ++ [Value.string (Cd.bs x.code), .int .i64 x.pos, v])[j]? = some u → cur'[i * 11 + j]? = some u) ∧ (z' = z ∨ (x.node.kind = 1 ∧ z' = f x.code)) := by
  rcases h.block b with e | ⟨ds, ds', g1, g2, g3⟩
  · exact ⟨cur, z, e.trans hb, hcs, .inl rfl⟩
  · rw [hb] at g1
    injection g1 with g1
    injection g1 with g1 _ _
    subst g1
    have k0 : cur[i * 11]? = some (.int .i64 x.node.kind) := by have := hcs 0 _ rfl; simpa using this
    have k2 : cur[i * 11 + 2]? = some (.int .i64 z) := hcs 2 _ rfl
    have k8 : cur[i * 11 + 8]? = some (.string (Cd.bs x.code)) := hcs 8 _ rfl
    have same : ∀ t, t < 11 → t ≠ 2 → ds'[i * 11 + t]? = cur[i * 11 + t]? := fun t ht h2 => by
      rcases g3 (i * 11 + t) with e | ⟨j, code, e1, -⟩
      · exact e
      · omega
    have hz' : ∃ z', ds'[i * 11 + 2]? = some (.int .i64 z') ∧ (z' = z ∨ (x.node.kind = 1 ∧ z' = f x.code)) := by
      rcases g3 (i * 11 + 2) with e | ⟨j, code, e1, e2, e3, e4⟩
      · exact ⟨z, e.trans k2, .inl rfl⟩
      · have hj : j = i := by omega
        subst hj
        rw [k0] at e2
        rw [k8] at e3
        injection e2 with e2
        injection e2 with _ e2
        injection e3 with e3
        injection e3 with e3
        exact ⟨_, e4, .inr ⟨e2, by rw [← e3]; rfl⟩⟩
    obtain ⟨z', hz1, hz2⟩ := hz'
    refine ⟨ds', z', g2, fun t u ht => ?_, hz2⟩
    have hlt := (List.getElem?_eq_some_iff.1 ht).1
    simp [encNz] at hlt
    rcases (show t = 0 ∨ t = 1 ∨ t = 2 ∨ t = 3 ∨ t = 4 ∨ t = 5 ∨ t = 6 ∨ t = 7 ∨ t = 8 ∨ t = 9 ∨ t = 10 by omega) with rfl | rfl | rfl | rfl | rfl | rfl | rfl | rfl | rfl | rfl | rfl
    all_goals first
      | exact (same _ (by decide) (by decide)).trans (hcs _ u ht)
      | (rw [hz1]; exact ht)
/-- one item more -/
theorem RdH.grow {S : List UInt8 → Int → Prop} {d : Nat} {w : World} {ok : Nat → Prop} {A : Option Addr} {i c b : Nat} {cur : Array Value} {xs : List Cd.Item} {x : Cd.Item} {cs : List Value} (h : RdH (KId S d) 76 w ok (.slice A i c) (xs.take i)) (hA : A = some ⟨b, 0, none⟩) (hok : ok b) (hb : w.heap[b]? = some (.cells cur 76 (0, 0)))
    (hx : xs[i]? = some x) (hr : (KId S d).rd w ok cs x) (hcs : ∀ (j : Nat) (u : Value), cs[j]? = some u → cur[i * 11 + j]? = some u) (hic : i + 1 ≤ c) (hc : c ≤ 9223372036854775807) : RdH (KId S d) 76 w ok (.slice A (i + 1) c) (xs.take (i + 1)) := by
  have hil := (List.getElem?_eq_some_iff.1 hx).1
  obtain ⟨A', c', hv, -, -, hh⟩ := h
  injection hv with hvA _ _
  subst hvA
  refine ⟨A, c, by rw [List.length_take, Nat.min_eq_left hil], by rw [List.length_take, Nat.min_eq_left hil]; exact hic, hc, fun _ => ⟨b, cur, hA, hok, hb, fun j a ha => ?_⟩⟩
  rw [List.getElem?_take] at ha
  split at ha
  · rename_i hj
    rcases Nat.lt_or_ge j i with q | q
    · have ha' : (xs.take i)[j]? = some a := by rw [List.getElem?_take, if_pos q]; exact ha
      obtain ⟨b', cur', hA', -, hb', hcell⟩ := hh (by rw [List.length_take]; omega)
      rw [hA] at hA'
      injection hA' with hA'
      injection hA' with hA'
      subst hA'
      rw [hb] at hb'
      injection hb' with hb'
      injection hb' with hb' _ _
      subst hb'
      exact hcell j a ha'
    · have : j = i := by omega
      subst this
      rw [hx] at ha
      cases ha
      exact ⟨cs, hr, by rw [kid_size]; exact hcs⟩
  · cases ha
theorem RdH.one_at {S : List UInt8 → Int → Prop} {d : Nat} {w : World} {ok : Nat → Prop} {A : Option Addr} {n c : Nat} {xs : List Cd.Item} (h : RdH (KId S d) 76 w ok (.slice A n c) xs) {i : Nat} {x : Cd.Item} (hi : xs[i]? = some x) :
    ∃ e b cur z A' c', d = e + 1 ∧ A = some ⟨b, 0, none⟩ ∧ ok b ∧ w.heap[b]? = some (.cells cur 76 (0, 0)) ∧ (if x.node.kind = 1 then S x.code z else z = x.node.sign) ∧ RdH (KId S e) 76 w ok (.slice A' x.kids.length c') x.kids ∧
      (∀ (j : Nat) (u : Value), (encNz x.node z ++ [Value.string (Cd.bs x.code), .int .i64 x.pos, .slice A' x.kids.length c'])[j]? = some u → cur[i * 11 + j]? = some u) := by
  obtain ⟨A0, c0, hv, hl, hc, hh⟩ := h
  cases hv
  obtain ⟨b, cur, hA, hb, hcur, hcell⟩ := hh (by have := (List.getElem?_eq_some_iff.1 hi).1; omega)
  obtain ⟨cs, hrd, hcs⟩ := hcell i x hi
  cases d with
  | zero => exact hrd.elim
  | succ e =>
    obtain ⟨z, v, rfl, hz, hk⟩ := hrd
    obtain ⟨A', c', rfl⟩ := hk.form
    exact ⟨e, b, cur, z, A', c', rfl, hA, hb, hcur, hz, hk, hcs⟩
def RetVis (l : Sg.SList) (d : Nat) (ok : Nat → Prop) (A : Option Addr) (c : Nat) (xs : List Cd.Item) (W : World) (e : Ending) (W' : World) : Prop :=
  Upd ok (Cd.signIx l) W W' ∧ match Cd.unknownV l (Cd.codesL xs) with
    | some k => e = .returned (.int .i64 k)
    | none => e = .returned (.int .i64 (-1)) ∧ RdH (KId (SF (Cd.signIx l)) d) 76 W' ok (.slice A xs.length c) xs
end Go.Proofs.Ytenmkbpdkfhbjaa
