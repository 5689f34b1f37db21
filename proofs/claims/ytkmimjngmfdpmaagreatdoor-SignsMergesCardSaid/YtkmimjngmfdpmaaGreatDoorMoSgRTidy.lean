/- ostraconref01.Copy (its row is the call's own), Tidy. Made by gen_r1tidy.py. -/
import Derived.Test.YtkmimjngmfdpmaaGreatDoorMoSgGTidy
import Derived.Test.YtkmimjngmfdpmaaGreatDoorMoTrimPlain
namespace Go.Proofs.YtkmimjngmfdpmaaGreatDoor
open Go Go.RowKit

theorem rdg_one {w : World} {ok : Nat → Prop} {b off n c k : Nat} {l : List Sg.Sign} {s : Sg.Sign} (h : RdG KSign w ok (.slice (some ⟨b, off, none⟩) n c) l) (hs : l[k]? = some s) : RdG KSign w ok (.slice (some ⟨b, off + k * 5, none⟩) 1 (c - k)) [s] := by
  obtain ⟨A, c', e, hl, hc, hh⟩ := h
  injection e with e1 e2 e3
  subst e1
  subst e3
  have hk := (List.getElem?_eq_some_iff.1 hs).1
  obtain ⟨b', off', e', hb, hcell⟩ := hh (by omega)
  injection e' with e'
  injection e' with e4 e5
  subst e4
  subst e5
  refine ⟨_, c - k, rfl, by simp; omega, by omega, fun _ => ⟨b, off + k * 5, rfl, hb, fun i a ha => ?_⟩⟩
  cases i with
  | succ i => simp at ha
  | zero =>
    simp at ha
    subst ha
    obtain ⟨cs, h1, h2⟩ := hcell k _ hs
    refine ⟨cs, h1, fun j u hj => ?_⟩
    have := h2 j u hj
    rw [Nat.zero_mul, Nat.add_zero]
    exact this
/-- a row of values beside the block that is written -/
theorem own_side {w : World} {B g : Nat} {e : TypeId} {size n : Nat} {v : Value} {xs : List Value} {o : Nat} (h : w.ownsRow B e size v n xs) (hg : g < B) (u : Value) : (w.setCell ⟨g, o, none⟩ u).ownsRow B e size v n xs :=
  h.kept (grown_set w ⟨g, o, none⟩ u) (by
    cases hv : v.ownBlock with
    | none => exact .inl rfl
    | some q =>
      refine .inr fun e => ?_
      have := (h.lt q hv).1
      injection e with e
      have e' : q = g := e
      omega)
theorem grows_set {w w' : World} {ok ok' : Nat → Prop} (hk : ∀ b, ok b → ok' b ∧ w'.heap[b]? = w.heap[b]?) {v : Value} {T : List Sg.Value} (hv : RdX w' ok' 4 encValue v T) {cells : List Value} {xs : List Sg.Sign} (h : grows KSign w ok cells xs) :
    ∀ {k : Nat} {s : Sg.Sign}, xs[k]? = some s → grows KSign w' ok' (cells.set (k * 5 + 4) v) (xs.set k ⟨s.code, s.wide, s.high, s.even, T⟩) := by
  induction h with
  | nil => intro k s hs; simp at hs
  | @cons cs r a xs h t ih =>
    intro k s hs
    have hl := KSign.len h
    cases k with
    | zero =>
      simp at hs
      subst hs
      obtain ⟨u, rfl, -⟩ := h
      exact grows.cons (cs := [.string a.code, .int .i64 a.wide, .int .i64 a.high, .bool a.even, v]) ⟨v, rfl, hv⟩ (t.keep hk)
    | succ k =>
      simp at hs
      have e : (cs ++ r).set ((k + 1) * 5 + 4) v = cs ++ r.set (k * 5 + 4) v := by
        have hl5 : cs.length = 5 := hl
        rw [List.set_append_right _ _ (by omega), hl5]
        congr 2
        omega
      rw [e, List.set_cons_succ]
      exact grows.cons (KSign.keep hk h) (ih hs)
theorem ownG_set {w : World} {base B g n c k : Nat} {xs : List Sg.Sign} {s : Sg.Sign} {v : Value} {T : List Sg.Value} (h : OwnG KSign 67 w base (.slice (some ⟨g, 0, none⟩) n c) xs) (hs : xs[k]? = some s) (hv : w.ownsRow B 60 4 v T.length (T.flatMap encValue)) (hg : g < B) (hB : base ≤ B) :
    OwnG KSign 67 (w.setCell ⟨g, k * 5 + 4, none⟩ v) base (.slice (some ⟨g, 0, none⟩) n c) (xs.set k ⟨s.code, s.wide, s.high, s.even, T⟩) := by
  obtain ⟨cells, ho, hgr⟩ := h
  refine ⟨cells.set (k * 5 + 4) v, ?_, grows_set (fun b hb => ⟨⟨by simp [World.setCell]; exact hb.1, hb.2.1, hb.2.2⟩, Below.heap_setCell _ ⟨g, k * 5 + 4, none⟩ _ _ (fun e => hb.2.1 (by rw [e]; rfl))⟩) ?_ hgr hs⟩
  · have hl := ho.1
    rcases ho.2 with ⟨e, -⟩ | ⟨g', cap', cur, e, hg', hh, hle, hm, hsz, ht⟩
    · cases e
    · cases e
      rw [List.length_set]
      refine ⟨by simpa using hl, .inr ⟨g, c, cur.setIfInBounds (k * 5 + 4) v, rfl, hg', gset hh _, hle, hm, by simpa using hsz, ?_⟩⟩
      have e1 : (cur.setIfInBounds (k * 5 + 4) v).toList = cur.toList.set (k * 5 + 4) v := by simp
      rw [e1, List.take_set, ht]
  · refine (rdx_of_own len_value hv).keep fun j hj => ⟨⟨by simp [World.setCell]; omega, fun e => ?_, by omega⟩, Below.heap_setCell _ ⟨g, k * 5 + 4, none⟩ _ _ ?_⟩
    · have e' : g = j := by simpa [Value.ownBlock] using e
      omega
    · show j ≠ g
      omega
end Go.Proofs.YtkmimjngmfdpmaaGreatDoor
