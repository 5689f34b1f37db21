/- ostraconref01.Copy (its row is the call's own), Tidy. Made by gen_r1tidy.py.; A list of signs of the call's own, each with values of the call's own, all in blocks of their own. -/
import Derived.Test.YtkmimjngmfdpmaaGreatDoorMpSgGTidy
import Derived.Test.YtkmimjngmfdpmaaGreatDoorMpTrimPlain
import Derived.Test.YtkmimjngmfdpmaaGreatDoorMpSgParse
import Derived.Test.YtkmimjngmfdpmaaGreatDoorMpSgCopy
namespace Go.Proofs.YtkmimjngmfdpmaaGreatDoor
open Go Go.RowKit

/-- a row of values beside the block that is written -/
theorem own_side {w : World} {B g : Nat} {e : TypeId} {size n : Nat} {v : Value} {xs : List Value} {o : Nat} (h : w.ownsRow B e size v n xs) (hg : g < B) (u : Value) : (w.setCell ⟨g, o, none⟩ u).ownsRow B e size v n xs :=
  h.kept (grown_set w ⟨g, o, none⟩ u) (by
    cases hv : v.ownBlock with
    | none => exact .inl rfl
    | some q =>
      refine .inr fun e => ?_
      have := (h.lt q hv).1
      injection e with e
      have e' : q = g := e
      omega)
theorem grows_set {w w' : World} {ok ok' : Nat → Prop} (hk : ∀ b, ok b → ok' b ∧ w'.heap[b]? = w.heap[b]?) {v : Value} {T : List Sg.Value} (hv : RdX w' ok' 4 encValue v T) {cells : List Value} {xs : List Sg.Sign} (h : grows KSign w ok cells xs) :
    ∀ {k : Nat} {s : Sg.Sign}, xs[k]? = some s → grows KSign w' ok' (cells.set (k * 5 + 4) v) (xs.set k ⟨s.code, s.wide, s.high, s.even, T⟩) := by
  induction h with
  | nil => intro k s hs; simp at hs
  | @cons cs r a xs h t ih =>
    intro k s hs
    have hl := KSign.len h
    cases k with
    | zero =>
      simp at hs
      subst hs
      obtain ⟨u, rfl, -⟩ := h
      exact grows.cons (cs := [.string a.code, .int .i64 a.wide, .int .i64 a.high, .bool a.even, v]) ⟨v, rfl, hv⟩ (t.keep hk)
    | succ k =>
      simp at hs
      have e : (cs ++ r).set ((k + 1) * 5 + 4) v = cs ++ r.set (k * 5 + 4) v := by
        have hl5 : cs.length = 5 := hl
        rw [List.set_append_right _ _ (by omega), hl5]
        congr 2
        omega
      rw [e, List.set_cons_succ]
      exact grows.cons (KSign.keep hk h) (ih hs)
theorem ownG_set {w : World} {base B g n c k : Nat} {xs : List Sg.Sign} {s : Sg.Sign} {v : Value} {T : List Sg.Value} (h : OwnG KSign 67 w base (.slice (some ⟨g, 0, none⟩) n c) xs) (hs : xs[k]? = some s) (hv : w.ownsRow B 60 4 v T.length (T.flatMap encValue)) (hg : g < B) (hB : base ≤ B) :
    OwnG KSign 67 (w.setCell ⟨g, k * 5 + 4, none⟩ v) base (.slice (some ⟨g, 0, none⟩) n c) (xs.set k ⟨s.code, s.wide, s.high, s.even, T⟩) := by
  obtain ⟨cells, ho, hgr⟩ := h
  refine ⟨cells.set (k * 5 + 4) v, ?_, grows_set (fun b hb => ⟨⟨by simp [World.setCell]; exact hb.1, hb.2.1, hb.2.2⟩, Below.heap_setCell _ ⟨g, k * 5 + 4, none⟩ _ _ (fun e => hb.2.1 (by rw [e]; rfl))⟩) ?_ hgr hs⟩
  · have hl := ho.1
    rcases ho.2 with ⟨e, -⟩ | ⟨g', cap', cur, e, hg', hh, hle, hm, hsz, ht⟩
    · cases e
    · cases e
      rw [List.length_set]
      refine ⟨by simpa using hl, .inr ⟨g, c, cur.setIfInBounds (k * 5 + 4) v, rfl, hg', gset hh _, hle, hm, by simpa using hsz, ?_⟩⟩
      have e1 : (cur.setIfInBounds (k * 5 + 4) v).toList = cur.toList.set (k * 5 + 4) v := by simp
      rw [e1, List.take_set, ht]
  · refine (rdx_of_own len_value hv).keep fun j hj => ⟨⟨by simp [World.setCell]; omega, fun e => ?_, by omega⟩, Below.heap_setCell _ ⟨g, k * 5 + 4, none⟩ _ _ ?_⟩
    · have e' : g = j := by simpa [Value.ownBlock] using e
      omega
    · show j ≠ g
      omega
end Go.Proofs.YtkmimjngmfdpmaaGreatDoor
namespace Go.Proofs.YtkmimjngmfdpmaaGreatDoor
open Go Go.RowKit

/-- the values of a row of five cells -/
def rowV (r : ByteArray × Int × Int × Bool × (Option Addr × Nat × Nat)) : Value := .slice r.2.2.2.2.1 r.2.2.2.2.2.1 r.2.2.2.2.2.2
structure RowOf (w : World) (base : Nat) (r : ByteArray × Int × Int × Bool × (Option Addr × Nat × Nat)) (s : Sg.Sign) : Prop where
  c : r.1 = s.code
  wd : r.2.1 = s.wide
  hg : r.2.2.1 = s.high
  ev : r.2.2.2.1 = s.even
  own : w.ownsRow base 60 4 (rowV r) s.values.length (s.values.flatMap encValue)
structure OwnSQ (w : World) (base : Nat) (v : Value) (q : List (ByteArray × Int × Int × Bool × (Option Addr × Nat × Nat))) (xs : List Sg.Sign) : Prop where
  len : q.length = xs.length
  row : w.ownsRow base 67 5 v xs.length (q.flatMap encS)
  one : ∀ (i : Nat) r s, q[i]? = some r → xs[i]? = some s → RowOf w base r s
  ap : ∀ (i j : Nat) r r' g, i ≠ j → q[i]? = some r → q[j]? = some r' → (rowV r).ownBlock = some g → (rowV r').ownBlock ≠ some g
theorem OwnSQ.nil (w : World) (base : Nat) : OwnSQ w base (.slice none 0 0) [] [] := ⟨rfl, World.ownsRow_nil _ _ _ _, fun i r s h => by simp at h, fun i j r r' g _ h => by simp at h⟩
theorem RowOf.kept {w w' : World} {base : Nat} {r : ByteArray × Int × Int × Bool × (Option Addr × Nat × Nat)} {s : Sg.Sign} {row : Option Nat} (h : RowOf w base r s) (hg : w.grownBy w' row) (hne : (rowV r).ownBlock = none ∨ (rowV r).ownBlock ≠ row) : RowOf w' base r s :=
  ⟨h.c, h.wd, h.hg, h.ev, h.own.kept hg hne⟩
theorem own_none_or {o : Option Nat} : o = none ∨ o ≠ none := by cases o <;> simp
theorem OwnSQ.kept {w w' : World} {base : Nat} {v : Value} {q : List (ByteArray × Int × Int × Bool × (Option Addr × Nat × Nat))} {xs : List Sg.Sign} (h : OwnSQ w base v q xs) (hb : Below w.heap.size w w') : OwnSQ w' base v q xs :=
  ⟨h.len, h.row.kept (grown_of_below (row := none) hb) own_none_or, fun i r s hr hs => (h.one i r s hr hs).kept (grown_of_below (row := none) hb) own_none_or, h.ap⟩
/-- a block ahead of the list's own was written -/
theorem OwnSQ.aside {w w' : World} {base : Nat} {row : Option Nat} {v : Value} {q : List (ByteArray × Int × Int × Bool × (Option Addr × Nat × Nat))} {xs : List Sg.Sign} (h : OwnSQ w base v q xs) (hg : w.grownBy w' row) (hk : ∀ k, row = some k → k < base) : OwnSQ w' base v q xs := by
  have key : ∀ (u : Value) (e : TypeId) (size n : Nat) (cells : List Value), w.ownsRow base e size u n cells → u.ownBlock = none ∨ u.ownBlock ≠ row := fun u e size n cells ho => by
    cases hu : u.ownBlock with
    | none => exact .inl rfl
    | some g =>
      right
      intro e'
      have a1 := (ho.lt g hu).1
      have a2 := hk g e'.symm
      omega
  exact ⟨h.len, h.row.kept hg (key _ _ _ _ _ h.row), fun i r s hr hs => (h.one i r s hr hs).kept hg (key _ _ _ _ _ (h.one i r s hr hs).own), h.ap⟩
theorem OwnSQ.lt {w : World} {base : Nat} {v : Value} {q : List (ByteArray × Int × Int × Bool × (Option Addr × Nat × Nat))} {xs : List Sg.Sign} (h : OwnSQ w base v q xs) : (∀ g, v.ownBlock = some g → g < w.heap.size) ∧ ∀ (i : Nat) x g, q[i]? = some x → (rowV x).ownBlock = some g → g < w.heap.size := by
  refine ⟨fun g hg => (h.row.lt g hg).2, fun i x g hx hg => ?_⟩
  have hi := (List.getElem?_eq_some_iff.1 hx).1
  have hi' : i < xs.length := by have := h.len; omega
  exact ((h.one i x _ hx (List.getElem?_eq_getElem hi')).own.lt g hg).2
theorem OwnSQ.sign {w : World} {base : Nat} {v : Value} {q : List (ByteArray × Int × Int × Bool × (Option Addr × Nat × Nat))} {xs : List Sg.Sign} (h : OwnSQ w base v q xs) {i : Nat} {r : ByteArray × Int × Int × Bool × (Option Addr × Nat × Nat)} (hr : q[i]? = some r) : ∃ s, xs[i]? = some s ∧ RowOf w base r s := by
  have hi := (List.getElem?_eq_some_iff.1 hr).1
  have hi' : i < xs.length := by have := h.len; omega
  have hx : xs[i]? = some xs[i] := List.getElem?_eq_getElem hi'
  exact ⟨_, hx, h.one i r _ hr hx⟩
/-- no values lie in the block of the signs -/
theorem OwnSQ.side {w : World} {base : Nat} {v : Value} {q : List (ByteArray × Int × Int × Bool × (Option Addr × Nat × Nat))} {xs : List Sg.Sign} (h : OwnSQ w base v q xs) {i : Nat} {r : ByteArray × Int × Int × Bool × (Option Addr × Nat × Nat)} (hr : q[i]? = some r) : (rowV r).ownBlock = none ∨ (rowV r).ownBlock ≠ v.ownBlock := by
  obtain ⟨s, -, hrow⟩ := h.sign hr
  exact own_apart hrow.own h.row (by decide)
theorem OwnSQ.snoc {w w' : World} {base B : Nat} {v v' : Value} {q : List (ByteArray × Int × Int × Bool × (Option Addr × Nat × Nat))} {xs : List Sg.Sign} {r : ByteArray × Int × Int × Bool × (Option Addr × Nat × Nat)} {s : Sg.Sign}
    (h : OwnSQ w base v q xs) (hr : RowOf w B r s) (hB : base ≤ B) (hfr : ∀ (i : Nat) x g, q[i]? = some x → (rowV x).ownBlock = some g → g < B) (hvb : ∀ g, v.ownBlock = some g → g < B) (hg : w.grownBy w' v.ownBlock)
    (hown : w'.ownsRow base 67 5 v' (xs.length + 1) (q.flatMap encS ++ encS r)) : OwnSQ w' base v' (q ++ [r]) (xs ++ [s]) := by
  have hrB : ∀ g, (rowV r).ownBlock = some g → B ≤ g := fun g hg => (hr.own.lt g hg).1
  refine ⟨by simp [h.len], ?_, fun i x y hx hy => ?_, fun i j x x' g hij hx hx' hxg hxg' => ?_⟩
  · rw [List.flatMap_append, List.length_append]
    simpa using hown
  · rw [List.getElem?_append] at hx hy
    split at hx
    · rename_i hlt
      rw [if_pos (by rw [← h.len]; exact hlt)] at hy
      exact (h.one i x y hx hy).kept hg (h.side hx)
    · rename_i hlt
      rw [if_neg (by rw [← h.len]; exact hlt)] at hy
      have e1 : x = r := by have := List.mem_of_getElem? hx; simpa using this
      have e2 : y = s := by have := List.mem_of_getElem? hy; simpa using this
      subst e1; subst e2
      have h1 := hr.own.mono hB
      refine ⟨hr.c, hr.wd, hr.hg, hr.ev, h1.kept hg ?_⟩
      cases ho : (rowV x).ownBlock with
      | none => exact .inl rfl
      | some g =>
        right
        intro e
        have a1 := hrB g ho
        have a2 := hvb g e.symm
        omega
  · rw [List.getElem?_append] at hx hx'
    split at hx
    · split at hx'
      · exact h.ap i j x x' g hij hx hx' hxg hxg'
      · have e1 : x' = r := by have := List.mem_of_getElem? hx'; simpa using this
        subst e1
        have a1 := hfr i x g hx hxg
        have a2 := hrB g hxg'
        omega
    · have e1 : x = r := by have := List.mem_of_getElem? hx; simpa using this
      subst e1
      split at hx'
      · have a1 := hfr j x' g hx' hxg'
        have a2 := hrB g hxg
        omega
      · have l1 := (List.getElem?_eq_some_iff.1 hx).1
        have l2 := (List.getElem?_eq_some_iff.1 hx').1
        simp at l1 l2
        omega
theorem flat_set {q : List (ByteArray × Int × Int × Bool × (Option Addr × Nat × Nat))} : ∀ {i : Nat} {r r' : ByteArray × Int × Int × Bool × (Option Addr × Nat × Nat)}, q[i]? = some r → r'.1 = r.1 → r'.2.1 = r.2.1 → r'.2.2.1 = r.2.2.1 → r'.2.2.2.1 = r.2.2.2.1 →
    (q.set i r').flatMap encS = (q.flatMap encS).set (i * 5 + 4) (rowV r') := by
  induction q with
  | nil => intro i r r' h; simp at h
  | cons x q ih =>
    intro i r r' h e1 e2 e3 e4
    cases i with
    | zero =>
      simp at h
      subst h
      simp [encS, rowV, e1, e2, e3, e4]
    | succ i =>
      simp at h
      have hl : (encS x).length = 5 := rfl
      rw [List.set_cons_succ, List.flatMap_cons, List.flatMap_cons, ih h e1 e2 e3 e4, List.set_append_right _ _ (by omega), hl]
      congr 2
      omega
/-- one sign's values grow in place or go to a new block; the sign's cell is written anew -/
theorem OwnSQ.put {w w' : World} {base g n c i : Nat} {q : List (ByteArray × Int × Int × Bool × (Option Addr × Nat × Nat))} {xs : List Sg.Sign} {r r' : ByteArray × Int × Int × Bool × (Option Addr × Nat × Nat)} {s s' : Sg.Sign}
    (h : OwnSQ w base (.slice (some ⟨g, 0, none⟩) n c) q xs) (hn : n = xs.length) (hq : q[i]? = some r) (hs : xs[i]? = some s) (e1 : r'.1 = r.1) (e2 : r'.2.1 = r.2.1) (e3 : r'.2.2.1 = r.2.2.1) (e4 : r'.2.2.2.1 = r.2.2.2.1)
    (f1 : s'.code = s.code) (f2 : s'.wide = s.wide) (f3 : s'.high = s.high) (f4 : s'.even = s.even)
    (hg : w.grownBy w' (rowV r).ownBlock) (hown : w'.ownsRow base 60 4 (rowV r') s'.values.length (s'.values.flatMap encValue)) (hat : (rowV r').ownBlock = (rowV r).ownBlock ∨ ∀ k, (rowV r').ownBlock = some k → w.heap.size ≤ k) :
    OwnSQ (w'.setCell ⟨g, i * 5 + 4, none⟩ (rowV r')) base (.slice (some ⟨g, 0, none⟩) n c) (q.set i r') (xs.set i s') := by
  subst hn
  have hrow' : w'.ownsRow base 67 5 (.slice (some ⟨g, 0, none⟩) xs.length c) xs.length (q.flatMap encS) := h.row.kept hg (by
    rcases h.side hq with e | e
    · rw [e]; exact .inr (by simp [Value.ownBlock])
    · exact .inr fun e' => e e'.symm)
  obtain ⟨hst, hgs⟩ := hrow'.stored (i * 5 + 4) (rowV r')
  have hside : ∀ (x : Value) (L : List Sg.Value), w'.ownsRow base 60 4 x L.length (L.flatMap encValue) → (w'.setCell ⟨g, i * 5 + 4, none⟩ (rowV r')).ownsRow base 60 4 x L.length (L.flatMap encValue) := fun x L hx => hx.kept hgs (by
    rcases own_apart hx hrow' (by decide) with e | e
    · exact .inl e
    · exact .inr e)
  have hlt : i < q.length := (List.getElem?_eq_some_iff.1 hq).1
  -- the rows at other places
  have hoth : ∀ j x, j ≠ i → q[j]? = some x → (rowV x).ownBlock = none ∨ (rowV x).ownBlock ≠ (rowV r).ownBlock := fun j x hj hx => by
    cases ho : (rowV x).ownBlock with
    | none => exact .inl rfl
    | some k => exact .inr fun e => h.ap j i x r k hj hx hq ho e.symm
  refine ⟨by simp [h.len], ?_, fun j x y hx hy => ?_, fun j k x x' b hjk hx hx' hxb hxb' => ?_⟩
  · rw [List.length_set, flat_set hq e1 e2 e3 e4]
    exact hst
  · by_cases hj : j = i
    · subst hj
      rw [List.getElem?_set_self hlt] at hx
      rw [List.getElem?_set_self (by have := h.len; omega)] at hy
      cases hx; cases hy
      have h0 := h.one j r s hq hs
      exact ⟨e1.trans (h0.c.trans f1.symm), e2.trans (h0.wd.trans f2.symm), e3.trans (h0.hg.trans f3.symm), e4.trans (h0.ev.trans f4.symm), hside _ _ hown⟩
    · rw [List.getElem?_set_ne (fun e => hj e.symm)] at hx hy
      have h0 := (h.one j x y hx hy).kept hg (hoth j x hj hx)
      exact ⟨h0.c, h0.wd, h0.hg, h0.ev, hside _ _ h0.own⟩
  · have hblk : ∀ j x k, j ≠ i → q[j]? = some x → (rowV x).ownBlock = some k → (rowV r').ownBlock ≠ some k := fun j x k hj hx hk e => by
      rcases hat with h' | h'
      · exact h.ap j i x r k hj hx hq hk (h'.symm.trans e)
      · obtain ⟨y, -, hy⟩ := h.sign hx
        have a1 := (hy.own.lt k hk).2
        have a2 := h' k e
        omega
    by_cases hj : j = i
    · subst hj
      rw [List.getElem?_set_self hlt] at hx
      cases hx
      rw [List.getElem?_set_ne hjk] at hx'
      exact hblk k x' b (fun e => hjk e.symm) hx' hxb' hxb
    · rw [List.getElem?_set_ne (fun e => hj e.symm)] at hx
      by_cases hk : k = i
      · subst hk
        rw [List.getElem?_set_self hlt] at hx'
        cases hx'
        exact hblk j x b hj hx hxb hxb'
      · rw [List.getElem?_set_ne (fun e => hk e.symm)] at hx'
        exact h.ap j k x x' b hjk hx hx' hxb hxb'
/-- the same list, as it is read -/
theorem OwnSQ.grows {w : World} {base : Nat} {v : Value} {ok : Nat → Prop} : ∀ {q : List (ByteArray × Int × Int × Bool × (Option Addr × Nat × Nat))} {xs : List Sg.Sign}, q.length = xs.length → (∀ (i : Nat) r s, q[i]? = some r → xs[i]? = some s → RowOf w base r s ∧ ∀ k, (rowV r).ownBlock = some k → ok k) → grows KSign w ok (q.flatMap encS) xs
  | [], [], _, _ => .nil
  | [], _ :: _, h, _ => by simp at h
  | _ :: _, [], h, _ => by simp at h
  | r :: q, s :: xs, hl, h => by
    obtain ⟨h0, h1⟩ := h 0 r s rfl rfl
    refine grows.cons (cs := encS r) ⟨rowV r, by unfold encS rowV; rw [h0.c, h0.wd, h0.hg, h0.ev], ?_⟩ (OwnSQ.grows (v := v) (by simpa using hl) fun i r' s' hr hs => h (i + 1) r' s' (by simpa using hr) (by simpa using hs))
    obtain ⟨A, n, hv, hc, hm, hh⟩ := rdx_of_own len_value h0.own
    refine ⟨A, n, hv, hc, hm, fun hp => ?_⟩
    obtain ⟨b, off, hA, -, hcell⟩ := hh hp
    exact ⟨b, off, hA, h1 b (by rw [hv, hA]; rfl), hcell⟩
theorem OwnSQ.toG {w : World} {base : Nat} {v : Value} {q : List (ByteArray × Int × Int × Bool × (Option Addr × Nat × Nat))} {xs : List Sg.Sign} (h : OwnSQ w base v q xs) : OwnG KSign 67 w base v xs :=
  ⟨_, h.row, OwnSQ.grows (v := v) (base := base) h.len fun i r s hr hs => ⟨h.one i r s hr hs, fun k hk => by
    have a := (h.one i r s hr hs).own.lt k hk
    refine ⟨a.2, fun e => ?_, a.1⟩
    rcases h.side hr with e' | e'
    · rw [e'] at hk; cases hk
    · exact e' (hk.trans e.symm)⟩⟩
end Go.Proofs.YtkmimjngmfdpmaaGreatDoor
