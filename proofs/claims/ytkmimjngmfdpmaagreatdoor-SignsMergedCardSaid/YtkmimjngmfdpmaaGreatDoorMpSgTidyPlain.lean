/- Tidy values: plain law. -/
import Derived.Test.YtkmimjngmfdpmaaGreatDoorMpRegion
import Derived.Lib.Bytealg
namespace Sg
open Go
instance : DecidableEq Value := fun a b => if h : a.kind = b.kind ∧ a.text = b.text ∧ a.lo = b.lo ∧ a.hi = b.hi then isTrue (by cases a; cases b; simp_all) else isFalse (by rintro rfl; exact h ⟨rfl, rfl, rfl, rfl⟩)
theorem cbL_neg : ∀ a b : List UInt8, Lib.compareBytes a b = -Lib.compareBytes b a
  | [], [] => rfl
  | [], _ :: _ => rfl
  | _ :: _, [] => rfl
  | a :: asq, b :: bs => by
    have ih := cbL_neg asq bs
    unfold Lib.compareBytes
    by_cases h : a < b
    · have h' : ¬ b < a := by rw [UInt8.lt_iff_toNat_lt] at *; omega
      rw [if_pos h, if_neg h', if_pos h]
    · rw [if_neg h]
      by_cases h2 : b < a
      · rw [if_pos h2, if_pos h2]; rfl
      · rw [if_neg h2, if_neg h2, if_neg h]; exact ih
theorem cbL_eq : ∀ {a b : List UInt8}, Lib.compareBytes a b = 0 → a = b
  | [], [], _ => rfl
  | [], _ :: _, h => by simp [Lib.compareBytes] at h
  | _ :: _, [], h => by simp [Lib.compareBytes] at h
  | a :: asq, b :: bs, h => by
    unfold Lib.compareBytes at h
    split at h
    · simp at h
    · rename_i h1
      split at h
      · simp at h
      · rename_i h2
        have e : a = b := by
          rw [UInt8.lt_iff_toNat_lt] at h1 h2
          exact UInt8.toNat_inj.1 (by omega)
        rw [e, cbL_eq h]
theorem cbL_self : ∀ a : List UInt8, Lib.compareBytes a a = 0
  | [] => rfl
  | a :: asq => by
    unfold Lib.compareBytes
    have h : ¬ a < a := by rw [UInt8.lt_iff_toNat_lt]; omega
    rw [if_neg h, if_neg h]
    exact cbL_self asq
theorem cbL_trans : ∀ {a b c : List UInt8}, Lib.compareBytes a b < 0 → Lib.compareBytes b c < 0 → Lib.compareBytes a c < 0
  | [], [], _, h, _ => by simp [Lib.compareBytes] at h
  | [], _ :: _, [], _, h => by simp [Lib.compareBytes] at h
  | [], _ :: _, _ :: _, _, _ => by simp [Lib.compareBytes]
  | _ :: _, [], _, h, _ => by simp [Lib.compareBytes] at h
  | _ :: _, _ :: _, [], _, h => by simp [Lib.compareBytes] at h
  | a :: asq, b :: bs, c :: cs, h1, h2 => by
    unfold Lib.compareBytes at h1 h2 ⊢
    have ih := @cbL_trans asq bs cs
    simp only [UInt8.lt_iff_toNat_lt] at *
    by_cases e1 : a.toNat < b.toNat
    · by_cases e2 : b.toNat < c.toNat
      · rw [if_pos (by omega)]; omega
      · rw [if_neg e2] at h2
        by_cases e3 : c.toNat < b.toNat
        · rw [if_pos e3] at h2; omega
        · rw [if_pos (by omega)]; omega
    · rw [if_neg e1] at h1
      by_cases e4 : b.toNat < a.toNat
      · rw [if_pos e4] at h1; omega
      · rw [if_neg e4] at h1
        by_cases e2 : b.toNat < c.toNat
        · rw [if_pos (by omega)]; omega
        · rw [if_neg e2] at h2
          by_cases e3 : c.toNat < b.toNat
          · rw [if_pos e3] at h2; omega
          · rw [if_neg e3] at h2
            rw [if_neg (by omega), if_neg (by omega)]
            exact ih h1 h2
/-- the order of texts -/
def cb (a b : ByteArray) : Int := Lib.compareBytes a.data.toList b.data.toList
theorem cb_neg (a b : ByteArray) : cb a b = -cb b a := cbL_neg _ _
theorem cb_eq {a b : ByteArray} (h : cb a b = 0) : a = b := ByteArray.ext (Array.toList_inj.1 (cbL_eq h))
theorem cb_self (a : ByteArray) : cb a a = 0 := cbL_self _
theorem cb_trans {a b c : ByteArray} (h1 : cb a b < 0) (h2 : cb b c < 0) : cb a c < 0 := cbL_trans h1 h2
/-- the order of names, and equal names -/
def nlt (a b : Value) : Prop := a.kind < b.kind ∨ (a.kind = b.kind ∧ cb a.text b.text < 0)
def neq (a b : Value) : Prop := a.kind = b.kind ∧ a.text = b.text
instance (a b : Value) : Decidable (nlt a b) := by unfold nlt; infer_instance
instance (a b : Value) : Decidable (neq a b) := by unfold neq; infer_instance
theorem nlt_trans {a b c : Value} (h1 : nlt a b) (h2 : nlt b c) : nlt a c := by
  unfold nlt at *
  rcases h1 with h1 | ⟨h1, h1'⟩ <;> rcases h2 with h2 | ⟨h2, h2'⟩
  · exact .inl (by omega)
  · exact .inl (by omega)
  · exact .inl (by omega)
  · exact .inr ⟨h1.trans h2, cb_trans h1' h2'⟩
theorem nlt_irr {a b : Value} (h : nlt a b) : ¬ neq a b := by
  rintro ⟨h1, h2⟩
  rcases h with h | ⟨-, h⟩
  · omega
  · rw [h2, cb_self] at h; omega
theorem nlt_asymm {a b : Value} (h : nlt a b) : ¬ nlt b a := fun h' => by
  have := nlt_trans h h'
  exact nlt_irr this ⟨rfl, rfl⟩
theorem nlt_l {a b c : Value} (h : neq a b) (h2 : nlt b c) : nlt a c := by
  obtain ⟨h, h'⟩ := h
  unfold nlt at *
  rw [h, h']; exact h2
theorem nlt_r {a b c : Value} (h : nlt a b) (h2 : neq b c) : nlt a c := by
  obtain ⟨h2, h2'⟩ := h2
  unfold nlt at *
  rw [← h2, ← h2']; exact h
theorem neq_trans {a b c : Value} (h : neq a b) (h2 : neq b c) : neq a c := ⟨h.1.trans h2.1, h.2.trans h2.2⟩
theorem neq_symm {a b : Value} (h : neq a b) : neq b a := ⟨h.1.symm, h.2.symm⟩
theorem n_cases (a b : Value) : nlt a b ∨ neq a b ∨ nlt b a := by
  unfold nlt neq
  have h := cb_neg a.text b.text
  by_cases h1 : a.kind < b.kind
  · exact .inl (.inl h1)
  · by_cases h2 : b.kind < a.kind
    · exact .inr (.inr (.inl h2))
    · have e : a.kind = b.kind := by omega
      by_cases h3 : cb a.text b.text < 0
      · exact .inl (.inr ⟨e, h3⟩)
      · by_cases h4 : cb b.text a.text < 0
        · exact .inr (.inr (.inr ⟨e.symm, h4⟩))
        · exact .inr (.inl ⟨e, cb_eq (by omega)⟩)
/-- by name, then by the first period -/
def kle (a b : Value) : Prop := nlt a b ∨ (neq a b ∧ a.lo ≤ b.lo)
def klt (a b : Value) : Prop := nlt a b ∨ (neq a b ∧ a.lo < b.lo)
instance (a b : Value) : Decidable (klt a b) := by unfold klt; infer_instance
theorem kle_trans {a b c : Value} (h1 : kle a b) (h2 : kle b c) : kle a c := by
  rcases h1 with h1 | ⟨h1, h1'⟩ <;> rcases h2 with h2 | ⟨h2, h2'⟩
  · exact .inl (nlt_trans h1 h2)
  · exact .inl (nlt_r h1 h2)
  · exact .inl (nlt_l h1 h2)
  · exact .inr ⟨neq_trans h1 h2, Int.le_trans h1' h2'⟩
theorem klt_trans {a b c : Value} (h1 : klt a b) (h2 : klt b c) : klt a c := by
  rcases h1 with h1 | ⟨h1, h1'⟩ <;> rcases h2 with h2 | ⟨h2, h2'⟩
  · exact .inl (nlt_trans h1 h2)
  · exact .inl (nlt_r h1 h2)
  · exact .inl (nlt_l h1 h2)
  · exact .inr ⟨neq_trans h1 h2, Int.lt_trans h1' h2'⟩
theorem klt_irr {a : Value} : ¬ klt a a := by
  rintro (h | ⟨-, h⟩)
  · exact nlt_irr h ⟨rfl, rfl⟩
  · omega
theorem k_cases (a b : Value) : klt a b ∨ (neq a b ∧ a.lo = b.lo) ∨ klt b a := by
  rcases n_cases a b with h | h | h
  · exact .inl (.inl h)
  · by_cases h1 : a.lo < b.lo
    · exact .inl (.inr ⟨h, h1⟩)
    · by_cases h2 : a.lo = b.lo
      · exact .inr (.inl ⟨h, h2⟩)
      · exact .inr (.inr (.inr ⟨neq_symm h, by omega⟩))
  · exact .inr (.inr (.inl h))
/-- longest stretches, in order -/
def Canon (l : List Value) : Prop := (∀ v ∈ l, v.lo ≤ v.hi) ∧ l.Pairwise fun a b => nlt a b ∨ (neq a b ∧ a.hi + 1 < b.lo)
/-- what values say of a period -/
def Cov (l : List Value) (k : Int) (t : ByteArray) (p : Int) : Prop := ∃ v ∈ l, v.kind = k ∧ v.text = t ∧ v.lo ≤ p ∧ p ≤ v.hi
theorem cov_cons {a : Value} {l : List Value} {k : Int} {t : ByteArray} {p : Int} : Cov (a :: l) k t p ↔ (a.kind = k ∧ a.text = t ∧ a.lo ≤ p ∧ p ≤ a.hi) ∨ Cov l k t p := by
  unfold Cov
  simp only [List.mem_cons, exists_eq_or_imp]
theorem canon_le {a b : Value} {la lb : List Value} (ha : Canon (a :: la)) (hb : Canon (b :: lb)) (h : ∀ k t p, Cov (a :: la) k t p → Cov (b :: lb) k t p) : kle b a := by
  obtain ⟨v, hv, h1, h2, h3, h4⟩ := h a.kind a.text a.lo (cov_cons.2 (.inl ⟨rfl, rfl, Int.le_refl _, ha.1 a (by simp)⟩))
  rcases List.mem_cons.1 hv with rfl | hv
  · exact .inr ⟨⟨h1, h2⟩, h3⟩
  · have := (List.pairwise_cons.1 hb.2).1 v hv
    have hn : neq v a := ⟨h1, h2⟩
    rcases this with q | ⟨q, q'⟩
    · exact .inl (nlt_r q hn)
    · have := hb.1 b (by simp)
      exact .inr ⟨neq_trans q hn, by omega⟩
theorem canon_hi {a b : Value} {la lb : List Value} (ha : Canon (a :: la)) (_hb : Canon (b :: lb)) (h : ∀ k t p, Cov (b :: lb) k t p → Cov (a :: la) k t p) (hn : neq a b) (hl : a.lo = b.lo) : b.hi ≤ a.hi := by
  refine Decidable.byContradiction fun hc => ?_
  have hlo := ha.1 a (by simp)
  obtain ⟨v, hv, h1, h2, h3, h4⟩ := h b.kind b.text (a.hi + 1) (cov_cons.2 (.inl ⟨rfl, rfl, by omega, by omega⟩))
  rcases List.mem_cons.1 hv with rfl | hv
  · omega
  · rcases (List.pairwise_cons.1 ha.2).1 v hv with q | ⟨q, q'⟩
    · exact nlt_irr q (neq_trans hn ⟨h1.symm, h2.symm⟩)
    · omega
theorem canon_tail {a : Value} {l : List Value} (h : Canon (a :: l)) : Canon l := ⟨fun v hv => h.1 v (by simp [hv]), (List.pairwise_cons.1 h.2).2⟩
theorem canon_unique : ∀ {l m : List Value}, Canon l → Canon m → (∀ k t p, Cov l k t p ↔ Cov m k t p) → l = m
  | [], [], _, _, _ => rfl
  | [], b :: m, _, hm, h => by
    have := (h b.kind b.text b.lo).2 (cov_cons.2 (.inl ⟨rfl, rfl, Int.le_refl _, hm.1 b (by simp)⟩))
    obtain ⟨v, hv, -⟩ := this
    cases hv
  | a :: l, [], hl, _, h => by
    have := (h a.kind a.text a.lo).1 (cov_cons.2 (.inl ⟨rfl, rfl, Int.le_refl _, hl.1 a (by simp)⟩))
    obtain ⟨v, hv, -⟩ := this
    cases hv
  | a :: l, b :: m, hl, hm, h => by
    have h1 := canon_le hl hm fun k t p => (h k t p).1
    have h2 := canon_le hm hl fun k t p => (h k t p).2
    have hn : neq a b ∧ a.lo = b.lo := by
      rcases h1 with q | ⟨q, q'⟩ <;> rcases h2 with r | ⟨r, r'⟩
      · exact absurd r (nlt_asymm q)
      · exact absurd (neq_symm r) (nlt_irr q)
      · exact absurd (neq_symm q) (nlt_irr r)
      · exact ⟨r, by omega⟩
    obtain ⟨hn, hlo⟩ := hn
    have h3 := canon_hi hl hm (fun k t p => (h k t p).2) hn hlo
    have h4 := canon_hi hm hl (fun k t p => (h k t p).1) (neq_symm hn) hlo.symm
    have e : a = b := by
      obtain ⟨ka, ta, la, ha⟩ := a
      obtain ⟨kb, tb, lb, hb⟩ := b
      obtain ⟨e1, e2⟩ := hn
      simp only at e1 e2 hlo h3 h4
      rw [e1, e2, hlo, Int.le_antisymm h4 h3]
    subst e
    rw [canon_unique (canon_tail hl) (canon_tail hm) fun k t p => ?_]
    have hh := h k t p
    rw [cov_cons, cov_cons] at hh
    constructor
    · intro hc
      rcases hh.1 (.inr hc) with q | q
      · obtain ⟨v, hv, g1, g2, g3, g4⟩ := hc
        rcases (List.pairwise_cons.1 hl.2).1 v hv with r | ⟨r, r'⟩
        · exact absurd ⟨q.1.trans g1.symm, q.2.1.trans g2.symm⟩ (nlt_irr r)
        · omega
      · exact q
    · intro hc
      rcases hh.2 (.inr hc) with q | q
      · obtain ⟨v, hv, g1, g2, g3, g4⟩ := hc
        rcases (List.pairwise_cons.1 hm.2).1 v hv with r | ⟨r, r'⟩
        · exact absurd ⟨q.1.trans g1.symm, q.2.1.trans g2.symm⟩ (nlt_irr r)
        · omega
      · exact q
/-- values in order are merged -/
def mergeR (u : Value) : List Value → List Value
  | [] => [u]
  | v :: r => if neq u v ∧ v.lo ≤ u.hi + 1 then mergeR ⟨u.kind, u.text, u.lo, max u.hi v.hi⟩ r else u :: mergeR v r
def mergeV : List Value → List Value
  | [] => []
  | u :: r => mergeR u r
theorem merge_canon : ∀ (r : List Value) (u : Value), u.lo ≤ u.hi → (∀ v ∈ r, v.lo ≤ v.hi) → r.Pairwise kle → (∀ v ∈ r, kle u v) →
    Canon (mergeR u r) ∧ (∀ w ∈ mergeR u r, kle u w) ∧ ∀ k t p, Cov (mergeR u r) k t p ↔ Cov (u :: r) k t p
  | [], u, hu, _, _, _ => ⟨⟨by simp [mergeR, hu], by simp [mergeR]⟩, by
      intro w hw
      simp [mergeR] at hw
      subst hw
      exact .inr ⟨⟨rfl, rfl⟩, Int.le_refl _⟩, fun k t p => Iff.rfl⟩
  | v :: r, u, hu, hr, hs, hk => by
    have hs' := List.pairwise_cons.1 hs
    have hv := hr v (by simp)
    have kuv := hk v (by simp)
    unfold mergeR
    by_cases hm : neq u v ∧ v.lo ≤ u.hi + 1
    · rw [if_pos hm]
      have hlo : u.lo ≤ v.lo := by
        rcases kuv with q | q
        · exact absurd hm.1 (nlt_irr q)
        · exact q.2
      obtain ⟨h1, h2, h3⟩ := merge_canon r ⟨u.kind, u.text, u.lo, max u.hi v.hi⟩ (by show u.lo ≤ max u.hi v.hi; omega) (fun x hx => hr x (by simp [hx])) hs'.2 (fun x hx => hk x (by simp [hx]))
      refine ⟨h1, h2, fun k t p => ?_⟩
      rw [h3 k t p, cov_cons, cov_cons, cov_cons]
      obtain ⟨e1, e2⟩ := hm.1
      simp only
      constructor
      · rintro (⟨a1, a2, a3, a4⟩ | hc)
        · by_cases hp : p ≤ u.hi
          · exact .inl ⟨a1, a2, a3, hp⟩
          · exact .inr (.inl ⟨e1 ▸ a1, e2 ▸ a2, by omega, by omega⟩)
        · exact .inr (.inr hc)
      · rintro (⟨a1, a2, a3, a4⟩ | ⟨a1, a2, a3, a4⟩ | hc)
        · exact .inl ⟨a1, a2, a3, by omega⟩
        · exact .inl ⟨e1.trans a1, e2.trans a2, by omega, by omega⟩
        · exact .inr hc
    · rw [if_neg hm]
      obtain ⟨h1, h2, h3⟩ := merge_canon r v hv (fun x hx => hr x (by simp [hx])) hs'.2 hs'.1
      refine ⟨⟨?_, ?_⟩, ?_, fun k t p => ?_⟩
      · intro x hx
        rcases List.mem_cons.1 hx with rfl | hx
        · exact hu
        · exact h1.1 x hx
      · refine List.pairwise_cons.2 ⟨fun w hw => ?_, h1.2⟩
        have kvw := h2 w hw
        rcases kuv with q | ⟨q, q'⟩
        · rcases kvw with s | ⟨s, s'⟩
          · exact .inl (nlt_trans q s)
          · exact .inl (nlt_r q s)
        · have : u.hi + 1 < v.lo := by
            refine Decidable.byContradiction fun hc => hm ⟨q, by omega⟩
          rcases kvw with s | ⟨s, s'⟩
          · exact .inl (nlt_l q s)
          · exact .inr ⟨neq_trans q s, by omega⟩
      · intro w hw
        rcases List.mem_cons.1 hw with rfl | hw
        · exact .inr ⟨⟨rfl, rfl⟩, Int.le_refl _⟩
        · exact kle_trans kuv (h2 w hw)
      · rw [cov_cons, h3 k t p, cov_cons (a := u)]
theorem mergeV_canon {l : List Value} (h : ∀ v ∈ l, v.lo ≤ v.hi) (hs : l.Pairwise kle) : Canon (mergeV l) ∧ ∀ k t p, Cov (mergeV l) k t p ↔ Cov l k t p := by
  cases l with
  | nil => exact ⟨⟨by simp [mergeV], by simp [mergeV]⟩, fun k t p => Iff.rfl⟩
  | cons u r =>
    have hs' := List.pairwise_cons.1 hs
    obtain ⟨h1, -, h3⟩ := merge_canon r u (h u (by simp)) (fun v hv => h v (by simp [hv])) hs'.2 hs'.1
    exact ⟨h1, h3⟩
/-- a point is put into a sorted list of points -/
def putV (x : Value) : List Value → List Value
  | [] => [x]
  | a :: l => if klt a x then a :: putV x l else if a = x then a :: l else x :: a :: l
theorem putV_mem {x y : Value} : ∀ {l : List Value}, y ∈ putV x l ↔ y = x ∨ y ∈ l
  | [] => by simp [putV]
  | a :: l => by
    unfold putV
    split
    · rw [List.mem_cons, putV_mem (l := l), List.mem_cons]
      constructor
      · rintro (h | h | h)
        · exact .inr (.inl h)
        · exact .inl h
        · exact .inr (.inr h)
      · rintro (h | h | h)
        · exact .inr (.inl h)
        · exact .inl h
        · exact .inr (.inr h)
    · split
      · rename_i h
        subst h
        simp
      · simp
def Pt (v : Value) : Prop := v.lo = v.hi
theorem putV_sorted {x : Value} (hx : Pt x) : ∀ {l : List Value}, (∀ v ∈ l, Pt v) → l.Pairwise klt → (putV x l).Pairwise klt
  | [], _, _ => by simp [putV]
  | a :: l, hp, h => by
    have h' := List.pairwise_cons.1 h
    unfold putV
    split
    · rename_i hk
      refine List.pairwise_cons.2 ⟨fun y hy => ?_, putV_sorted hx (fun v hv => hp v (by simp [hv])) h'.2⟩
      rcases putV_mem.1 hy with rfl | hy
      · exact hk
      · exact h'.1 y hy
    · rename_i hk
      split
      · exact h
      · rename_i hne
        have hxa : klt x a := by
          rcases k_cases a x with q | ⟨⟨q1, q2⟩, q'⟩ | q
          · exact absurd q hk
          · refine absurd ?_ hne
            have e1 : a.lo = a.hi := hp a (by simp)
            have e2 : x.lo = x.hi := hx
            obtain ⟨ka, ta, la, ha⟩ := a
            obtain ⟨kx, tx, lx, hx⟩ := x
            simp only at q1 q2 q' e1 e2
            rw [q1, q2, q', ← e1, ← e2, q']
          · exact q
        refine List.pairwise_cons.2 ⟨fun y hy => ?_, h⟩
        rcases List.mem_cons.1 hy with rfl | hy
        · exact hxa
        · exact klt_trans hxa (h'.1 y hy)
/-- the points of values -/
def ptsOf (v : Value) : List Value := (List.range (v.hi + 1 - v.lo).toNat).map fun (i : Nat) => ⟨v.kind, v.text, v.lo + (i : Int), v.lo + (i : Int)⟩
def ptsL (l : List Value) : List Value := (l.flatMap ptsOf).foldl (fun acc x => putV x acc) []
theorem ptsOf_mem {v y : Value} : y ∈ ptsOf v ↔ neq y v ∧ Pt y ∧ v.lo ≤ y.lo ∧ y.lo ≤ v.hi := by
  unfold ptsOf
  rw [List.mem_map]
  constructor
  · rintro ⟨i, hi, rfl⟩
    rw [List.mem_range] at hi
    exact ⟨⟨rfl, rfl⟩, rfl, by show v.lo ≤ v.lo + i; omega, by show v.lo + i ≤ v.hi; omega⟩
  · rintro ⟨⟨h1, h2⟩, h3, h4, h5⟩
    refine ⟨(y.lo - v.lo).toNat, by rw [List.mem_range]; omega, ?_⟩
    obtain ⟨ky, ty, ly, hy⟩ := y
    simp only [Pt] at *
    have e : v.lo + ((ly - v.lo).toNat : Int) = ly := by omega
    rw [h1, h2, e, h3]
theorem fold_put {L : List Value} (hL : ∀ v ∈ L, Pt v) : ∀ {acc : List Value}, (∀ v ∈ acc, Pt v) → acc.Pairwise klt →
    (L.foldl (fun acc x => putV x acc) acc).Pairwise klt ∧ (∀ y, y ∈ L.foldl (fun acc x => putV x acc) acc ↔ y ∈ L ∨ y ∈ acc) := by
  induction L with
  | nil => intro acc _ h; exact ⟨h, fun y => by simp⟩
  | cons x L ih =>
    intro acc ha h
    obtain ⟨h1, h2⟩ := ih (fun v hv => hL v (by simp [hv])) (acc := putV x acc) (fun v hv => by
      rcases putV_mem.1 hv with rfl | hv
      · exact hL _ (by simp)
      · exact ha v hv) (putV_sorted (hL x (by simp)) ha h)
    refine ⟨h1, fun y => ?_⟩
    rw [List.foldl_cons, h2 y, putV_mem, List.mem_cons]
    constructor
    · rintro (q | q | q)
      · exact .inl (.inr q)
      · exact .inl (.inl q)
      · exact .inr q
    · rintro ((q | q) | q)
      · exact .inr (.inl q)
      · exact .inl q
      · exact .inr (.inr q)
theorem ptsL_spec (l : List Value) : (ptsL l).Pairwise klt ∧ (∀ y ∈ ptsL l, Pt y) ∧ ∀ k t p, Cov (ptsL l) k t p ↔ Cov l k t p := by
  have hp : ∀ v ∈ l.flatMap ptsOf, Pt v := by
    intro v hv
    obtain ⟨u, -, hv⟩ := List.mem_flatMap.1 hv
    exact (ptsOf_mem.1 hv).2.1
  obtain ⟨h1, h2⟩ := fold_put hp (acc := []) (by simp) List.Pairwise.nil
  have h2' : ∀ y, y ∈ ptsL l ↔ ∃ v ∈ l, y ∈ ptsOf v := fun y => by
    have := h2 y
    unfold ptsL
    rw [this, List.mem_flatMap]
    simp
  refine ⟨h1, fun y hy => ?_, fun k t p => ?_⟩
  · obtain ⟨v, -, hv⟩ := (h2' y).1 hy
    exact (ptsOf_mem.1 hv).2.1
  · constructor
    · rintro ⟨y, hy, e1, e2, e3, e4⟩
      obtain ⟨v, hv, hyv⟩ := (h2' y).1 hy
      obtain ⟨⟨g1, g2⟩, g3, g4, g5⟩ := ptsOf_mem.1 hyv
      unfold Pt at g3
      exact ⟨v, hv, g1.symm.trans e1, g2.symm.trans e2, by omega, by omega⟩
    · rintro ⟨v, hv, e1, e2, e3, e4⟩
      refine ⟨⟨v.kind, v.text, p, p⟩, (h2' _).2 ⟨v, hv, ptsOf_mem.2 ⟨⟨rfl, rfl⟩, rfl, e3, e4⟩⟩, e1, e2, Int.le_refl _, Int.le_refl _⟩
/-- the reference's merging of points -/
def joinR (u : Value) : List Value → List Value
  | [] => [u]
  | v :: r => if neq u v ∧ u.hi + 1 = v.lo then joinR ⟨u.kind, u.text, u.lo, v.hi⟩ r else u :: joinR v r
def joinV : List Value → List Value
  | [] => []
  | u :: r => joinR u r
theorem join_merge : ∀ (r : List Value) (u : Value), (∀ v ∈ r, Pt v) → r.Pairwise klt → (∀ v ∈ r, neq u v → u.hi < v.lo) → joinR u r = mergeR u r
  | [], u, _, _, _ => rfl
  | v :: r, u, hp, hs, hu => by
    have hs' := List.pairwise_cons.1 hs
    have hv : v.lo = v.hi := hp v (by simp)
    have hvr : ∀ w ∈ r, neq v w → v.hi < w.lo := fun w hw hn => by
      rcases hs'.1 w hw with q | q
      · exact absurd hn (nlt_irr q)
      · have := q.2; omega
    unfold joinR mergeR
    by_cases hn : neq u v
    · have := hu v (by simp) hn
      by_cases he : u.hi + 1 = v.lo
      · rw [if_pos ⟨hn, he⟩, if_pos ⟨hn, by omega⟩]
        have e : max u.hi v.hi = v.hi := by omega
        rw [e]
        exact join_merge r ⟨u.kind, u.text, u.lo, v.hi⟩ (fun w hw => hp w (by simp [hw])) hs'.2 (fun w hw h => hvr w hw (neq_trans (neq_symm hn) h))
      · rw [if_neg (fun h => he h.2), if_neg (fun h => he (by have := h.2; omega))]
        rw [join_merge r v (fun w hw => hp w (by simp [hw])) hs'.2 hvr]
    · rw [if_neg (fun h => hn h.1), if_neg (fun h => hn h.1)]
      rw [join_merge r v (fun w hw => hp w (by simp [hw])) hs'.2 hvr]
theorem pairwise_weak {l : List Value} (h : l.Pairwise klt) : l.Pairwise kle := h.imp fun {a b} q => by
  rcases q with q | ⟨q, q'⟩
  · exact .inl q
  · exact .inr ⟨q, by omega⟩
/-- what the reference makes of values -/
def tidiedV (l : List Value) : List Value := joinV (ptsL l)
theorem tidied_canon (l : List Value) : Canon (tidiedV l) ∧ ∀ k t p, Cov (tidiedV l) k t p ↔ Cov l k t p := by
  obtain ⟨h1, h2, h3⟩ := ptsL_spec l
  have e : tidiedV l = mergeV (ptsL l) := by
    unfold tidiedV
    cases hl : ptsL l with
    | nil => rfl
    | cons u r =>
      rw [hl] at h1 h2
      have hs' := List.pairwise_cons.1 h1
      have hu : u.lo = u.hi := h2 u (by simp)
      exact join_merge r u (fun v hv => h2 v (by simp [hv])) hs'.2 (fun w hw hn => by
        rcases hs'.1 w hw with q | q
        · exact absurd hn (nlt_irr q)
        · have := q.2; omega)
  obtain ⟨g1, g2⟩ := mergeV_canon (l := ptsL l) (fun v hv => by have := h2 v hv; unfold Pt at this; omega) (pairwise_weak h1)
  rw [e]
  exact ⟨g1, fun k t p => (g2 k t p).trans (h3 k t p)⟩
/-- sorted and merged is what the reference makes of them -/
theorem tidy_law {l s : List Value} (h : ∀ v ∈ l, v.lo ≤ v.hi) (hp : s.Perm l) (hs : s.Pairwise kle) : mergeV s = tidiedV l := by
  obtain ⟨g1, g2⟩ := mergeV_canon (l := s) (fun v hv => h v (hp.mem_iff.1 hv)) hs
  obtain ⟨t1, t2⟩ := tidied_canon l
  refine canon_unique g1 t1 fun k t p => (g2 k t p).trans (Iff.trans ?_ (t2 k t p).symm)
  unfold Cov
  constructor
  · rintro ⟨v, hv, q⟩; exact ⟨v, hp.mem_iff.1 hv, q⟩
  · rintro ⟨v, hv, q⟩; exact ⟨v, hp.mem_iff.2 hv, q⟩
end Sg
