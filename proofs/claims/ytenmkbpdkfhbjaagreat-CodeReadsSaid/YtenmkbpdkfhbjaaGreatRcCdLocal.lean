/- Where a string breaks: a reader looks at no byte behind the place that it tells: plain law. -/
import Derived.Test.YtenmkbpdkfhbjaaGreatRcCdMem
namespace Cd
open Go
def R.pos {α : Type} : R α → Nat
 | .bad k => k
 | .ok _ k => k
def Loc {α : Type} (m : Nat) (r r' : R α) : Prop := (r' = r ∧ r.pos < m) ∨ (m ≤ r.pos ∧ r'.pos = m)
theorem loc_bind {α β : Type} {m k : Nat} {r r' : R α} {f f' : α → Nat → R β} (h : Loc m r r') (hk : k ≤ m) (hr : k ≤ r.pos) (hf : ∀ x e, e ≤ (f x e).pos) (hl : ∀ x e, k ≤ e → e ≤ m → Loc m (f x e) (f' x e)) : Loc m (r.bind f) (r'.bind f') := by
 rcases h with ⟨rfl, h⟩ | ⟨h, h'⟩
 ·cases r' with
  | bad j => exact .inl ⟨rfl, h⟩
  | ok x e => exact hl x e hr (by have : e < m := h; omega)
 ·right
  constructor
  ·cases r with
   | bad j => exact h
   | ok x e => exact Nat.le_trans h (hf x e)
  ·cases r' with
   | bad j => exact h'
   | ok y e =>
    have he : e = m := h'
    subst he
    rcases hl y e hk (Nat.le_refl _) with ⟨-, q⟩ | ⟨-, q⟩
    ·have := hf y e; omega
    ·exact q
theorem mono_bind {α β : Type} {k : Nat} {r : R α} {f : α → Nat → R β} (h : k ≤ r.pos) (hf : ∀ x e, e ≤ (f x e).pos) : k ≤ (r.bind f).pos := by
 cases r with
 | bad j => exact h
 | ok x e => exact Nat.le_trans h (hf x e)
theorem loc_same {α : Type} {m : Nat} {r : R α} (h : r.pos ≤ m) : Loc m r r := by
 by_cases e : r.pos < m
 ·exact .inl ⟨rfl, e⟩
 ·exact .inr ⟨by omega, by omega⟩
theorem loc_end {α : Type} {m : Nat} {r r' : R α} (h : m ≤ r.pos) (h' : r'.pos = m) : Loc m r r' := .inr ⟨h, h'⟩
section
variable {s t : List UInt8} {m : Nat}
theorem at_lt (ht : t = s.take m) {k : Nat} (h : k < m) : t[k]? = s[k]? := by rw [ht, List.getElem?_take_of_lt h]
theorem at_m (ht : t = s.take m) (hm : m ≤ s.length) : t[m]? = none := by
 rw [ht, List.getElem?_eq_none_iff, List.length_take]; omega
theorem sees_lt (ht : t = s.take m) {k : Nat} (h : k < m) (c : UInt8) : sees t k c = sees s k c := by unfold sees; rw [at_lt ht h]
theorem sees_m (ht : t = s.take m) (hm : m ≤ s.length) (c : UInt8) : sees t m c = false := by unfold sees; rw [at_m ht hm]; rfl
theorem must_mono (k : Nat) (c : UInt8) : k ≤ (must s k c).pos := by unfold must; split <;> simp [R.pos]
theorem must_loc (ht : t = s.take m) (hm : m ≤ s.length) {k : Nat} (hk : k ≤ m) (c : UInt8) : Loc m (must s k c) (must t k c) := by
 by_cases e : k < m
 ·unfold must
  rw [sees_lt ht e]
  exact loc_same (by split <;> simp [R.pos] <;> omega)
 ·have : k = m := by omega
  subst this
  refine loc_end (must_mono k c) ?_
  unfold must
  rw [sees_m ht hm]
  rfl
theorem digit_mono (lo hi : UInt8) (k : Nat) : k ≤ (digitG s lo hi k).pos := by
 unfold digitG; split
 ·split <;> simp [R.pos]
 ·simp [R.pos]
theorem digit_loc (ht : t = s.take m) (hm : m ≤ s.length) (lo hi : UInt8) {k : Nat} (hk : k ≤ m) : Loc m (digitG s lo hi k) (digitG t lo hi k) := by
 by_cases e : k < m
 ·unfold digitG
  rw [at_lt ht e]
  refine loc_same ?_
  split
  ·split <;> simp [R.pos] <;> omega
  ·simp [R.pos]; omega
 ·have : k = m := by omega
  subst this
  refine loc_end (digit_mono lo hi k) ?_
  unfold digitG
  rw [at_m ht hm]
  rfl
theorem loc_sees {α : Type} (ht : t = s.take m) (hm : m ≤ s.length) {k : Nat} (hk : k ≤ m) (c : UInt8) {a b a' b' : R α} (hA : k < m → Loc m a a') (hAm : k ≤ a.pos) (hB : Loc m b b') (hBm : k ≤ b.pos) : Loc m (if sees s k c = true then a else b) (if sees t k c = true then a' else b') := by
 by_cases e : k < m
 ·rw [sees_lt ht e]
  split
  ·exact hA e
  ·exact hB
 ·have : k = m := by omega
  subst this
  rw [sees_m ht hm, if_neg (show ¬ (false = true) by decide)]
  refine loc_end (by split <;> assumption) ?_
  rcases hB with ⟨-, q⟩ | ⟨-, q⟩
  ·omega
  ·exact q
theorem mono_sees {α : Type} {k : Nat} {c : UInt8} {a b : R α} (hA : k ≤ a.pos) (hB : k ≤ b.pos) : k ≤ (if sees s k c = true then a else b).pos := by split <;> assumption
theorem turn_mono (k : Nat) : k ≤ (turnG s k).pos := mono_sees (Nat.le_trans (Nat.le_succ k) (digit_mono _ _ _)) (Nat.le_refl k)
theorem turn_loc (ht : t = s.take m) (hm : m ≤ s.length) {k : Nat} (hk : k ≤ m) : Loc m (turnG s k) (turnG t k) :=
 loc_sees ht hm hk 47 (fun h => digit_loc ht hm _ _ h) (Nat.le_trans (Nat.le_succ k) (digit_mono _ _ _)) (loc_same hk) (Nat.le_refl k)
theorem tw_take {α : Type} (p : α → Bool) : ∀ (l : List α) (n : Nat), ((l.take n).takeWhile p).length = min n (l.takeWhile p).length
 | [], n => by simp
 | a :: l, 0 => by simp
 | a :: l, n + 1 => by
  rw [List.take_succ_cons, List.takeWhile_cons, List.takeWhile_cons]
  split
  ·rw [List.length_cons, List.length_cons, tw_take p l n]; omega
  ·simp
theorem tw_min {α : Type} (p : α → Bool) (l : List α) (a b : Nat) : (((l.take a).take b).takeWhile p).length = min a ((l.take b).takeWhile p).length := by
 rw [List.take_take, Nat.min_comm, ← List.take_take, tw_take]
theorem code_gt (k : Nat) : k < codeEnd s k := by unfold codeEnd; omega
theorem code_min (ht : t = s.take m) {k : Nat} (h : k < m) : codeEnd t k = min m (codeEnd s k) := by
 unfold codeEnd
 rw [ht, List.drop_take, tw_min wordB]
 omega
end
def glyphE (s : List UInt8) (line : Bool) (k : Nat) (cd : List UInt8) (e : Nat) : R Item :=
 (if sees s e 92 = true then (R.ok true (e + 1) : R Bool) else .ok false e).bind fun mi e1 => (turnG s e1).bind fun tn e2 =>
  .ok (.mk (glyphN tn mi (if line = true then stateOf s[e2]? else 0)) cd k []) (if (if line = true then stateOf s[e2]? else 0) = 0 then e2 else e2 + 1)
section
variable {s t : List UInt8} {m : Nat}
theorem glyph_eq (line : Bool) (k : Nat) : glyphG s line k = match s[k]? with
  | some c => if upperB c = true then glyphE s line k ((s.drop k).take (codeEnd s k - k)) (codeEnd s k) else .bad k
  | none => .bad k := by
 unfold glyphG glyphE
 cases s[k]? with
 | none => rfl
 | some c =>
  simp only
  split
  ·by_cases h : sees s (codeEnd s k) 92 = true
   ·simp only [h, if_true]; rfl
   ·simp only [h]; simp only [R.bind, Bool.false_eq_true, if_false]
  ·rfl
theorem st_le (P : Prop) [Decidable P] (e : Nat) : e ≤ (if P then e else e + 1) ∧ (if P then e else e + 1) ≤ e + 1 := by split <;> omega
theorem glyphE_mono (line : Bool) (k : Nat) (cd : List UInt8) (e : Nat) : e ≤ (glyphE s line k cd e).pos := by
 unfold glyphE
 refine mono_bind (by split <;> simp [R.pos]) fun mi e1 => mono_bind (turn_mono e1) fun tn e2 => ?_
 exact (st_le _ e2).1
theorem glyphE_loc (ht : t = s.take m) (hm : m ≤ s.length) (line : Bool) (k : Nat) (cd : List UInt8) {e : Nat} (he : e ≤ m) : Loc m (glyphE s line k cd e) (glyphE t line k cd e) := by
 unfold glyphE
 have mono2 : ∀ (tn : Int) (mi : Bool) (e2 : Nat), e2 ≤ (R.ok (Item.mk (glyphN tn mi (if line = true then stateOf s[e2]? else 0)) cd k []) (if (if line = true then stateOf s[e2]? else 0) = 0 then e2 else e2 + 1)).pos := fun tn mi e2 => (st_le _ e2).1
 refine loc_bind (k := e) (loc_sees ht hm he 92 (fun h => loc_same (by simp [R.pos]; omega)) (by simp [R.pos]) (loc_same (by simp [R.pos]; omega)) (by simp [R.pos])) he (by split <;> simp [R.pos]) (fun mi e1 => mono_bind (turn_mono e1) fun tn e2 => mono2 tn mi e2) fun mi e1 h1 h1' => ?_
 refine loc_bind (k := e1) (turn_loc ht hm h1') h1' (turn_mono e1) (fun tn e2 => mono2 tn mi e2) fun tn e2 h2 h2' => ?_
 by_cases hlt : e2 < m
 ·rw [at_lt ht hlt]
  exact loc_same (Nat.le_trans (st_le _ e2).2 hlt)
 ·have : e2 = m := by omega
  subst this
  refine loc_end (mono2 tn mi e2) ?_
  rw [at_m ht hm]
  have : (if line = true then stateOf none else 0) = 0 := by split <;> rfl
  simp only [R.pos, this, if_true]
theorem glyph_mono (line : Bool) (k : Nat) : k ≤ (glyphG s line k).pos := by
 rw [glyph_eq]
 split
 ·split
  ·exact Nat.le_trans (Nat.le_of_lt (code_gt k)) (glyphE_mono ..)
  ·simp [R.pos]
 ·simp [R.pos]
theorem glyph_loc (ht : t = s.take m) (hm : m ≤ s.length) (line : Bool) {k : Nat} (hk : k ≤ m) : Loc m (glyphG s line k) (glyphG t line k) := by
 by_cases e : k < m
 ·rw [glyph_eq, glyph_eq, at_lt ht e]
  cases s[k]? with
  | none => exact loc_same (by simp [R.pos]; omega)
  | some c =>
   simp only
   split
   ·rw [code_min ht e]
    by_cases h : codeEnd s k ≤ m
    ·rw [Nat.min_eq_right h]
     have : (t.drop k).take (codeEnd s k - k) = (s.drop k).take (codeEnd s k - k) := by
      rw [ht, List.drop_take, List.take_take, Nat.min_eq_left (by omega)]
     rw [this]
     exact glyphE_loc ht hm line k _ h
    ·rw [Nat.min_eq_left (by omega)]
     refine loc_end (Nat.le_trans (by omega) (glyphE_mono ..)) ?_
     rcases glyphE_loc ht hm line k ((t.drop k).take (m - k)) (Nat.le_refl m) with ⟨-, q⟩ | ⟨-, q⟩
     ·have := glyphE_mono (s := s) line k ((t.drop k).take (m - k)) m; omega
     ·exact q
   ·exact loc_same (by simp [R.pos]; omega)
 ·have : k = m := by omega
  subst this
  refine loc_end (glyph_mono line k) ?_
  rw [glyph_eq, at_m ht hm]
  rfl
theorem leaf_mono (k : Nat) : k ≤ (leafG s k).pos :=
 mono_sees (mono_bind (Nat.le_trans (Nat.le_succ k) (digit_mono _ _ _)) fun _ k1 => mono_bind (must_mono k1 _) fun _ k2 => mono_bind (digit_mono _ _ k2) fun _ k3 => mono_bind (must_mono k3 _) fun _ _k4 => Nat.le_refl _) (glyph_mono true k)
theorem leaf_loc (ht : t = s.take m) (hm : m ≤ s.length) {k : Nat} (hk : k ≤ m) : Loc m (leafG s k) (leafG t k) := by
 refine loc_sees ht hm hk 123 (fun h => ?_) (mono_bind (Nat.le_trans (Nat.le_succ k) (digit_mono _ _ _)) fun _ k1 => mono_bind (must_mono k1 _) fun _ k2 => mono_bind (digit_mono _ _ k2) fun _ k3 => mono_bind (must_mono k3 _) fun _ k4 => Nat.le_refl _) (glyph_loc ht hm true hk) (glyph_mono true k)
 refine loc_bind (digit_loc ht hm _ _ h) h (digit_mono _ _ _) (fun _ k1 => mono_bind (must_mono k1 _) fun _ k2 => mono_bind (digit_mono _ _ k2) fun _ k3 => mono_bind (must_mono k3 _) fun _ k4 => Nat.le_refl _) fun a k1 _ h1 => ?_
 refine loc_bind (must_loc ht hm h1 _) h1 (must_mono _ _) (fun _ k2 => mono_bind (digit_mono _ _ k2) fun _ k3 => mono_bind (must_mono k3 _) fun _ k4 => Nat.le_refl _) fun _ k2 _ h2 => ?_
 refine loc_bind (digit_loc ht hm _ _ h2) h2 (digit_mono _ _ _) (fun _ k3 => mono_bind (must_mono k3 _) fun _ k4 => Nat.le_refl _) fun b k3 _ h3 => ?_
 exact loc_bind (must_loc ht hm h3 _) h3 (must_mono _ _) (fun _ k4 => Nat.le_refl _) fun _ k4 _ h4 => loc_same h4
theorem sep_mono {p : Nat → R Item} {c : UInt8} (hp : ∀ k, k ≤ (p k).pos) : ∀ (n k : Nat), k ≤ (sepG s p c n k).pos
 | 0, k => Nat.le_refl k
 | n + 1, k => by
  unfold sepG
  exact mono_bind (hp k) fun x k1 => mono_sees (Nat.le_trans (Nat.le_succ k1) (mono_bind (sep_mono hp n (k1 + 1)) fun xs k2 => Nat.le_refl _)) (Nat.le_refl _)
theorem sep_loc (ht : t = s.take m) (hm : m ≤ s.length) {p p' : Nat → R Item} {c : UInt8} {q : Nat} (hp : ∀ k, k ≤ (p k).pos) (hl : ∀ k, q ≤ k → k ≤ m → Loc m (p k) (p' k)) : ∀ (n n' k : Nat), q ≤ k → k ≤ m → s.length + 1 - k ≤ n → m + 1 - k ≤ n' → Loc m (sepG s p c n k) (sepG t p' c n' k)
 | 0, _, k, _, hk, h, _ => by omega
 | n + 1, 0, k, _, hk, _, h => by omega
 | n + 1, n' + 1, k, hq, hk, h, h' => by
  unfold sepG
  have m1 : ∀ (x : Item) (k1 : Nat), k1 ≤ ((sepG s p c n (k1 + 1)).bind fun xs k2 => R.ok (x :: xs) k2).pos := fun x k1 => Nat.le_trans (Nat.le_succ k1) (mono_bind (sep_mono hp n (k1 + 1)) fun xs k2 => Nat.le_refl _)
  refine loc_bind (hl k hq hk) hk (hp k) (fun x k1 => mono_sees (m1 x k1) (Nat.le_refl _)) fun x k1 h1 h1' => ?_
  refine loc_sees ht hm h1' c (fun hlt => ?_) (m1 x k1) (loc_same h1') (Nat.le_refl _)
  exact loc_bind (sep_loc ht hm hp hl n n' (k1 + 1) (by omega) hlt (by omega) (by omega)) hlt (sep_mono hp n (k1 + 1)) (fun xs k2 => Nat.le_refl _) fun xs k2 _ h2 => loc_same h2
theorem loc_guard {α : Type} (ht : t = s.take m) (hm : m ≤ s.length) {k : Nat} (hk : k ≤ m) (b : Bool) (c : UInt8) {r r' : R α} (hB : Loc m r r') (hBm : k ≤ r.pos) : Loc m (if b = true ∧ sees s k c = false then .bad k else r) (if b = true ∧ sees t k c = false then .bad k else r') := by
 by_cases e : k < m
 ·rw [sees_lt ht e]
  split
  ·exact loc_same hk
  ·exact hB
 ·have : k = m := by omega
  subst this
  refine loc_end (by split <;> simp [R.pos] <;> assumption) ?_
  rw [sees_m ht hm]
  split
  ·rfl
  ·rcases hB with ⟨-, q⟩ | ⟨-, q⟩
   ·omega
   ·exact q
theorem mono_guard {α : Type} {k : Nat} {b : Bool} {c : UInt8} {r : R α} (h : k ≤ r.pos) : k ≤ (if b = true ∧ sees s k c = false then .bad k else r).pos := by
 split
 ·exact Nat.le_refl k
 ·exact h
theorem fst_mono {ov : Nat → R (Item × Bool)} (h : ∀ k, k ≤ (ov k).pos) (k : Nat) : k ≤ ((ov k).bind fun y j1 => R.ok y.1 j1).pos := mono_bind (h k) fun _ _ => Nat.le_refl _
theorem beside_tail {ov : Nat → R (Item × Bool)} (h : ∀ k, k ≤ (ov k).pos) (x : Item) (k1 : Nat) : k1 ≤ ((sepG s (fun j => (ov j).bind fun y j1 => .ok y.1 j1) 42 (N s) (k1 + 1)).bind fun xs k2 => R.ok (one 2 (x :: xs)) k2).pos :=
 Nat.le_trans (Nat.le_succ k1) (mono_bind (sep_mono (fst_mono h) _ _) fun _ _ => Nat.le_refl _)
theorem beside_mono {ov : Nat → R (Item × Bool)} (h : ∀ k, k ≤ (ov k).pos) (k : Nat) : k ≤ (besideG s ov k).pos :=
 mono_bind (h k) fun x k1 => mono_guard (mono_sees (beside_tail h x.1 k1) (Nat.le_refl _))
theorem beside_loc (ht : t = s.take m) (hm : m ≤ s.length) {ov ov' : Nat → R (Item × Bool)} {q : Nat} (h : ∀ k, k ≤ (ov k).pos) (hl : ∀ k, q ≤ k → k ≤ m → Loc m (ov k) (ov' k)) {k : Nat} (hq : q ≤ k) (hk : k ≤ m) : Loc m (besideG s ov k) (besideG t ov' k) := by
 have hN : N t = m + 1 := by unfold N; rw [ht, List.length_take, Nat.min_eq_left hm]
 refine loc_bind (hl k hq hk) hk (h k) (fun x k1 => mono_guard (mono_sees (beside_tail h x.1 k1) (Nat.le_refl _))) fun x k1 h1 h1' => ?_
 refine loc_guard ht hm h1' x.2 42 (loc_sees ht hm h1' 42 (fun hlt => ?_) (beside_tail h x.1 k1) (loc_same h1') (Nat.le_refl _)) (mono_sees (beside_tail h x.1 k1) (Nat.le_refl _))
 refine loc_bind (sep_loc ht hm (q := q) (fst_mono h) (fun j hj hj' => loc_bind (hl j hj hj') hj' (h j) (fun _ _ => Nat.le_refl _) fun y j1 _ h2 => loc_same h2) _ _ (k1 + 1) (by omega) hlt (by unfold N; omega) (by rw [hN]; omega)) hlt (sep_mono (fst_mono h) _ _) (fun _ _ => Nat.le_refl _) fun xs k2 _ h2 => loc_same h2
theorem above_tail {ov : Nat → R (Item × Bool)} (h : ∀ k, k ≤ (ov k).pos) (x : Item) (k1 : Nat) : k1 ≤ ((sepG s (besideG s ov) 58 (N s) (k1 + 1)).bind fun xs k2 => R.ok (one 3 (x :: xs)) k2).pos :=
 Nat.le_trans (Nat.le_succ k1) (mono_bind (sep_mono (beside_mono h) _ _) fun _ _ => Nat.le_refl _)
theorem above_mono {ov : Nat → R (Item × Bool)} (h : ∀ k, k ≤ (ov k).pos) (w : Bool) (k : Nat) : k ≤ (aboveG s ov w k).pos :=
 mono_bind (beside_mono h k) fun x k1 => mono_guard (mono_sees (above_tail h x k1) (Nat.le_refl _))
theorem above_loc (ht : t = s.take m) (hm : m ≤ s.length) {ov ov' : Nat → R (Item × Bool)} {q : Nat} (h : ∀ k, k ≤ (ov k).pos) (hl : ∀ k, q ≤ k → k ≤ m → Loc m (ov k) (ov' k)) (w : Bool) {k : Nat} (hq : q ≤ k) (hk : k ≤ m) : Loc m (aboveG s ov w k) (aboveG t ov' w k) := by
 have hN : N t = m + 1 := by unfold N; rw [ht, List.length_take, Nat.min_eq_left hm]
 refine loc_bind (beside_loc ht hm h hl hq hk) hk (beside_mono h k) (fun x k1 => mono_guard (mono_sees (above_tail h x k1) (Nat.le_refl _))) fun x k1 h1 h1' => ?_
 refine loc_guard ht hm h1' w 58 (loc_sees ht hm h1' 58 (fun hlt => ?_) (above_tail h x k1) (loc_same h1') (Nat.le_refl _)) (mono_sees (above_tail h x k1) (Nat.le_refl _))
 refine loc_bind (sep_loc ht hm (q := q) (beside_mono h) (fun j hj hj' => beside_loc ht hm h hl hj hj') _ _ (k1 + 1) (by omega) hlt (by unfold N; omega) (by rw [hN]; omega)) hlt (sep_mono (beside_mono h) _ _) (fun _ _ => Nat.le_refl _) fun xs k2 _ h2 => loc_same h2
theorem over_leaf (k : Nat) : k ≤ ((leafG s k).bind fun x k1 => if sees s k1 38 = true then (leafG s (k1 + 1)).bind fun y k2 => R.ok (Item.mk (kindN 4) [] 0 [x, y], false) k2 else .ok (x, false) k1).pos :=
 mono_bind (leaf_mono k) fun _x k1 => mono_sees (Nat.le_trans (Nat.le_succ k1) (mono_bind (leaf_mono (k1 + 1)) fun _ _ => Nat.le_refl _)) (Nat.le_refl _)
theorem over_mono : ∀ (f k : Nat), k ≤ (overG s f k).pos
 | 0, k => Nat.le_refl k
 | f + 1, k => by
  unfold overG
  exact mono_sees (Nat.le_trans (Nat.le_succ k) (mono_bind (above_mono (over_mono f) true (k + 1)) fun x k1 => mono_bind (must_mono k1 41) fun _ _ => Nat.le_refl _)) (over_leaf k)
theorem over_loc (ht : t = s.take m) (hm : m ≤ s.length) : ∀ (f f' k : Nat), k ≤ m → s.length + 1 - k ≤ f → m + 1 - k ≤ f' → Loc m (overG s f k) (overG t f' k)
 | 0, _, k, hk, h, _ => by omega
 | f + 1, 0, k, hk, _, h => by omega
 | f + 1, f' + 1, k, hk, h, h' => by
  unfold overG
  refine loc_sees ht hm hk 40 (fun hlt => ?_) (Nat.le_trans (Nat.le_succ k) (mono_bind (above_mono (over_mono f) true (k + 1)) fun x k1 => mono_bind (must_mono k1 41) fun _ _ => Nat.le_refl _)) ?_ (over_leaf k)
  ·refine loc_bind (above_loc ht hm (q := k + 1) (over_mono f) (fun j hj hj' => over_loc ht hm f f' j hj' (by omega) (by omega)) true (Nat.le_refl _) hlt) hlt (above_mono (over_mono f) true (k + 1)) (fun x k1 => mono_bind (must_mono k1 41) fun _ _ => Nat.le_refl _) fun x k1 _ h1 => ?_
   exact loc_bind (must_loc ht hm h1 41) h1 (must_mono k1 41) (fun _ _ => Nat.le_refl _) fun _ k2 _ h2 => loc_same h2
  ·refine loc_bind (leaf_loc ht hm hk) hk (leaf_mono k) (fun x k1 => mono_sees (Nat.le_trans (Nat.le_succ k1) (mono_bind (leaf_mono (k1 + 1)) fun _ _ => Nat.le_refl _)) (Nat.le_refl _)) fun x k1 _ h1 => ?_
   refine loc_sees ht hm h1 38 (fun hlt => ?_) (Nat.le_trans (Nat.le_succ k1) (mono_bind (leaf_mono (k1 + 1)) fun _ _ => Nat.le_refl _)) (loc_same h1) (Nat.le_refl _)
   exact loc_bind (leaf_loc ht hm hlt) hlt (leaf_mono (k1 + 1)) (fun _ _ => Nat.le_refl _) fun y k2 _ h2 => loc_same h2
theorem N_take (ht : t = s.take m) (hm : m ≤ s.length) : N t = m + 1 := by unfold N; rw [ht, List.length_take, Nat.min_eq_left hm]
theorem over_all (ht : t = s.take m) (hm : m ≤ s.length) (k : Nat) (_ : 0 ≤ k) (hk : k ≤ m) : Loc m (overG s (N s) k) (overG t (N t) k) := over_loc ht hm _ _ k hk (by unfold N; omega) (by rw [N_take ht hm]; omega)
theorem part_head (k : Nat) : k ≤ ((sepG s (aboveG s (overG s (N s)) false) 59 (N s) (k + 1)).bind fun xs k1 => (must s k1 93).bind fun _ k2 => R.ok (Item.mk (kindN 7) [] 0 xs) k2).pos :=
 Nat.le_trans (Nat.le_succ k) (mono_bind (sep_mono (above_mono (over_mono (N s)) false) _ _) fun _xs k1 => mono_bind (must_mono k1 93) fun _ _ => Nat.le_refl _)
theorem part_mono (k : Nat) : k ≤ (partG s k).pos := mono_sees (part_head k) (above_mono (over_mono (N s)) false k)
theorem part_loc (ht : t = s.take m) (hm : m ≤ s.length) {k : Nat} (hk : k ≤ m) : Loc m (partG s k) (partG t k) := by
 refine loc_sees ht hm hk 91 (fun hlt => ?_) (part_head k) (above_loc ht hm (q := 0) (over_mono (N s)) (over_all ht hm) false (Nat.zero_le _) hk) (above_mono (over_mono (N s)) false k)
 refine loc_bind (sep_loc ht hm (q := 0) (above_mono (over_mono (N s)) false) (fun j hj hj' => above_loc ht hm (q := 0) (over_mono (N s)) (over_all ht hm) false hj hj') _ _ (k + 1) (Nat.zero_le _) hlt (by unfold N; omega) (by rw [N_take ht hm]; omega)) hlt
  (sep_mono (above_mono (over_mono (N s)) false) _ _) (fun xs k1 => mono_bind (must_mono k1 93) fun _ _ => Nat.le_refl _) fun xs k1 _ h1 => ?_
 exact loc_bind (must_loc ht hm h1 93) h1 (must_mono k1 93) (fun _ _ => Nat.le_refl _) fun _ k2 _ h2 => loc_same h2
theorem group_head (k : Nat) : k ≤ ((sepG s (partG s) 45 (N s) (k + 1)).bind fun xs k1 => (must s k1 62).bind fun _ k2 => R.ok (Item.mk (kindN 5) [] 0 xs) k2).pos :=
 Nat.le_trans (Nat.le_succ k) (mono_bind (sep_mono part_mono _ _) fun _xs k1 => mono_bind (must_mono k1 62) fun _ _ => Nat.le_refl _)
theorem group_mono (k : Nat) : k ≤ (groupG s k).pos := mono_sees (group_head k) (part_mono k)
theorem group_loc (ht : t = s.take m) (hm : m ≤ s.length) {k : Nat} (hk : k ≤ m) : Loc m (groupG s k) (groupG t k) := by
 refine loc_sees ht hm hk 60 (fun hlt => ?_) (group_head k) (part_loc ht hm hk) (part_mono k)
 refine loc_bind (sep_loc ht hm (q := 0) part_mono (fun j _ hj' => part_loc ht hm hj') _ _ (k + 1) (Nat.zero_le _) hlt (by unfold N; omega) (by rw [N_take ht hm]; omega)) hlt
  (sep_mono part_mono _ _) (fun xs k1 => mono_bind (must_mono k1 62) fun _ _ => Nat.le_refl _) fun xs k1 _ h1 => ?_
 exact loc_bind (must_loc ht hm h1 62) h1 (must_mono k1 62) (fun _ _ => Nat.le_refl _) fun _ k2 _ h2 => loc_same h2
theorem common_le : ∀ a b : List UInt8, commonL a b ≤ b.length
 | [], b => by simp [commonL]
 | x :: a, [] => by simp [commonL]
 | x :: a, y :: b => by
  rw [commonL]
  split
  ·have := common_le a b; simp; omega
  ·simp
theorem common_take : ∀ (a b : List UInt8) (n : Nat), commonL (a.take n) b = min n (commonL a b)
 | [], b, n => by simp [commonL]
 | x :: a, [], n => by
  cases n with
  | zero => simp [commonL]
  | succ n => simp [commonL]
 | x :: a, y :: b, 0 => by simp [commonL]
 | x :: a, y :: b, n + 1 => by
  rw [List.take_succ_cons, commonL, commonL]
  split
  ·rw [common_take a b n]; omega
  ·simp
theorem word_mono (k : Nat) : k ≤ (wordG s k).pos := by
 unfold wordG
 simp only
 split
 ·exact Nat.le_refl k
 ·split <;> simp [R.pos]
theorem word_loc (ht : t = s.take m) (hm : m ≤ s.length) {k : Nat} (hk : k ≤ m) : Loc m (wordG s k) (wordG t k) := by
 by_cases e : k < m
 ·unfold wordG
  rw [at_lt ht e]
  simp only
  split
  ·exact loc_same hk
  ·rename_i hq
   generalize wordOf (kindAt s[k]?) = wd
   have hc : commonL (t.drop k) wd = min (m - k) (commonL (s.drop k) wd) := by rw [ht, List.drop_take, common_take]
   have hle := common_le (s.drop k) wd
   by_cases hlt : k + commonL (s.drop k) wd ≤ m
   ·rw [hc, Nat.min_eq_right (by omega)]
    exact loc_same (by split <;> simp [R.pos] <;> omega)
   ·rw [hc, Nat.min_eq_left (by omega)]
    refine loc_end (by split <;> simp [R.pos] <;> omega) ?_
    rw [if_neg (by omega)]
    simp [R.pos]; omega
 ·have : k = m := by omega
  subst this
  refine loc_end (word_mono k) ?_
  unfold wordG
  rw [at_m ht hm]
  rfl
theorem tree_head {p : Nat → R Item} (hp : ∀ k, k ≤ (p k).pos) (k : Nat) : k ≤ ((wordG s (k + 1)).bind fun q k1 => (must s k1 32).bind fun _ k2 => (sepG s p 32 (N s) k2).bind fun xs k3 => (must s k3 41).bind fun _ k4 => R.ok (Item.mk (kindN q) [] 0 xs) k4).pos :=
 Nat.le_trans (Nat.le_succ k) (mono_bind (word_mono (k + 1)) fun _q k1 => mono_bind (must_mono k1 32) fun _ k2 => mono_bind (sep_mono hp _ k2) fun _xs k3 => mono_bind (must_mono k3 41) fun _ _ => Nat.le_refl _)
theorem tree_mono : ∀ (f k : Nat), k ≤ (treeG s f k).pos
 | 0, k => Nat.le_refl k
 | f + 1, k => by
  unfold treeG
  exact mono_sees (by simp [R.pos]) (mono_sees (tree_head (tree_mono f) k) (glyph_mono false k))
theorem tree_loc (ht : t = s.take m) (hm : m ≤ s.length) : ∀ (f f' k : Nat), k ≤ m → s.length + 1 - k ≤ f → m + 1 - k ≤ f' → Loc m (treeG s f k) (treeG t f' k)
 | 0, _, k, hk, h, _ => by omega
 | f + 1, 0, k, hk, _, h => by omega
 | f + 1, f' + 1, k, hk, h, h' => by
  unfold treeG
  refine loc_sees ht hm hk 63 (fun hlt => ?_) (by simp [R.pos]) (loc_sees ht hm hk 40 (fun hlt => ?_) (tree_head (tree_mono f) k) (glyph_loc ht hm false hk) (glyph_mono false k)) (mono_sees (tree_head (tree_mono f) k) (glyph_mono false k))
  ·have hc : ((t.drop k).takeWhile fun c => decide (c = 63)).length = min (m - k) ((s.drop k).takeWhile fun c => decide (c = 63)).length := by rw [ht, List.drop_take, tw_take]
   simp only [hc]
   by_cases hle : k + ((s.drop k).takeWhile fun c => decide (c = 63)).length ≤ m
   ·rw [Nat.min_eq_right (by omega)]
    exact loc_same (by simp [R.pos]; omega)
   ·rw [Nat.min_eq_left (by omega)]
    exact loc_end (by simp [R.pos]; omega) (by simp [R.pos]; omega)
  ·refine loc_bind (word_loc ht hm hlt) hlt (word_mono _) (fun q k1 => mono_bind (must_mono k1 32) fun _ k2 => mono_bind (sep_mono (tree_mono f) _ k2) fun xs k3 => mono_bind (must_mono k3 41) fun _ _ => Nat.le_refl _) fun q k1 g1 h1 => ?_
   refine loc_bind (must_loc ht hm h1 32) h1 (must_mono _ _) (fun _ k2 => mono_bind (sep_mono (tree_mono f) _ k2) fun xs k3 => mono_bind (must_mono k3 41) fun _ _ => Nat.le_refl _) fun _ k2 g2 h2 => ?_
   refine loc_bind (sep_loc ht hm (q := k + 1) (tree_mono f) (fun j hj hj' => tree_loc ht hm f f' j hj' (by omega) (by omega)) _ _ k2 (by omega) h2 (by unfold N; omega) (by rw [N_take ht hm]; omega)) h2 (sep_mono (tree_mono f) _ k2) (fun xs k3 => mono_bind (must_mono k3 41) fun _ _ => Nat.le_refl _) fun xs k3 _ h3 => ?_
   exact loc_bind (must_loc ht hm h3 41) h3 (must_mono _ _) (fun _ _ => Nat.le_refl _) fun _ k4 _ h4 => loc_same h4
def bodyG (s : List UInt8) (kind : Int) : R (List Item) := if kind = 1 then sepG s (groupG s) 45 (N s) 0 else sepG s (treeG s (N s)) 32 (N s) 0
theorem body_loc (ht : t = s.take m) (hm : m ≤ s.length) (kind : Int) : Loc m (bodyG s kind) (bodyG t kind) := by
 unfold bodyG
 split
 ·exact sep_loc ht hm (q := 0) group_mono (fun j _ hj => group_loc ht hm hj) _ _ 0 (Nat.le_refl _) (Nat.zero_le _) (by unfold N; omega) (by rw [N_take ht hm]; omega)
 ·exact sep_loc ht hm (q := 0) (tree_mono (N s)) (fun j _ hj => tree_loc ht hm _ _ j hj (by unfold N; omega) (by rw [N_take ht hm]; omega)) _ _ 0 (Nat.le_refl _) (Nat.zero_le _) (by unfold N; omega) (by rw [N_take ht hm]; omega)
theorem body_pos (kind : Int) : (bodyG s kind).pos ≤ s.length := by
 rcases body_loc (s := s) (t := s) (m := s.length) (by rw [List.take_length]) (Nat.le_refl _) kind with ⟨-, h⟩ | ⟨-, h⟩ <;> omega
theorem parse_body (kind : Int) : parseG s kind = if s = [] then .ok [] 0 else (bodyG s kind).bind fun xs k => if k < s.length then .bad k else .ok xs k := rfl
theorem parse_bad {kind : Int} {k : Nat} (h : parseG s kind = .bad k) : k ≤ s.length ∧ (∀ j, parseG (s.take k) kind = .bad j → j = k) ∧ (k < s.length → parseG (s.take (k + 1)) kind = .bad k) := by
 have hp := body_pos (s := s) kind
 rw [parse_body] at h
 by_cases h0 : s = []
 ·rw [if_pos h0] at h; cases h
 rw [if_neg h0] at h
 have hk : (bodyG s kind).pos = k := by
  cases hb : bodyG s kind with
  | bad j => rw [hb] at h; injection h
  | ok x e =>
   rw [hb] at h
   simp only [R.bind] at h
   split at h
   ·injection h
   ·cases h
 refine ⟨by omega, fun j hj => ?_, fun hlt => ?_⟩
 ·rw [parse_body] at hj
  split at hj
  ·cases hj
  rcases body_loc (s := s) (m := k) rfl (by omega) kind with ⟨-, q⟩ | ⟨-, q⟩
  ·omega
  ·cases hb : bodyG (s.take k) kind with
   | bad i => rw [hb] at hj q; injection hj with e; rw [← e]; exact q
   | ok x e =>
    rw [hb] at hj q
    simp only [R.bind] at hj
    have he : e = k := q
    rw [if_neg (by rw [List.length_take]; omega)] at hj
    cases hj
 ·have hne : s.take (k + 1) ≠ [] := fun e => by
   have := congrArg List.length e
   rw [List.length_take, List.length_nil] at this
   omega
  rw [parse_body, if_neg hne]
  rcases body_loc (s := s) (m := k + 1) rfl (by omega) kind with ⟨q, -⟩ | ⟨q, -⟩
  ·rw [q]
   cases hb : bodyG s kind with
   | bad i => rw [hb] at h; exact h
   | ok x e =>
    rw [hb] at h hk
    have he : e = k := hk
    subst he
    simp only [R.bind]
    rw [if_pos (by rw [List.length_take]; omega)]
  ·omega
end
end Cd
