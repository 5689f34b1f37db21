/- Texts: what Check says of them: plain law.; The two codes of a text: one grammar for the program's reader and for the document's: plain. -/
import Derived.Test.YtenmkbpdkfhbjaaGreatRcLeaf
import Derived.Test.YtenmkbpdkfhbjaaGreatRcFmtPlain
namespace Tx
open Go
structure Node where
 kind : Int
 depth : Int
 sign : Int
 turn : Int
 mirror : Bool
 state : Int
 lo : Int
 hi : Int
 deriving DecidableEq
def zeroN : Node := ⟨0, 0, 0, 0, false, 0, 0, 0⟩
def leafB (k : Int) : Bool := decide (k = 1) || decide (k = 6)
def nd (ns : List Node) (i : Nat) : Node := ns[i]?.getD zeroN
def dp (ns : List Node) (i : Nat) : Int := (nd ns i).depth
def kd (ns : List Node) (i : Nat) : Int := (nd ns i).kind
def most (b : Option Node) : Int := match b with
 | none => 0
 | some b => if leafB b.kind = true then b.depth else b.depth + 1
def evenAt (l : Sg.SList) (k : Int) : Bool := match l.signs[k.toNat]? with
 | some s => s.even
 | none => false
def ownV (l : Sg.SList) (b : Option Node) (n : Node) : Int :=
 if n.kind < 1 ∨ 7 < n.kind then 20
 else if n.depth < 0 ∨ 4 < n.depth ∨ most b < n.depth then 21
 else if n.kind = 1 then
  if n.sign < 0 ∨ (l.signs.length : Int) ≤ n.sign then 23
  else if n.turn < 0 ∨ 3 < n.turn ∨ n.state < 0 ∨ 3 < n.state ∨ (n.mirror = true ∧ evenAt l n.sign = true) then 20
  else if n.lo ≠ 0 ∨ n.hi ≠ 0 then 20 else 0
 else if n.kind = 6 then
  if n.lo < 0 ∨ n.hi < n.lo ∨ 9 < n.hi ∨ n.hi < 1 then 22
  else if n.sign ≠ 0 ∨ n.turn ≠ 0 ∨ n.mirror = true ∨ n.state ≠ 0 then 20 else 0
 else if n.sign ≠ 0 ∨ n.turn ≠ 0 ∨ n.mirror = true ∨ n.state ≠ 0 ∨ n.lo ≠ 0 ∨ n.hi ≠ 0 then 20 else 0
def ownAt (l : Sg.SList) (ns : List Node) (i : Nat) : Int := ownV l (if i = 0 then none else some (nd ns (i - 1))) (nd ns i)
structure Deep (ns : List Node) : Prop where
 pos : ∀ i, i < ns.length → 0 ≤ dp ns i
 first : 0 < ns.length → dp ns 0 = 0
 step : ∀ i, i + 1 < ns.length → dp ns (i + 1) ≤ dp ns i + 1
 leaf : ∀ i, i + 1 < ns.length → leafB (kd ns i) = true → dp ns (i + 1) ≤ dp ns i
 kinds : ∀ i, i < ns.length → 1 ≤ kd ns i ∧ kd ns i ≤ 7
theorem deep_of {l : Sg.SList} {ns : List Node} (h : ∀ i, i < ns.length → ownAt l ns i = 0) : Deep ns := by
 have key : ∀ i, i < ns.length → (1 ≤ kd ns i ∧ kd ns i ≤ 7) ∧ 0 ≤ dp ns i ∧ dp ns i ≤ most (if i = 0 then none else some (nd ns (i - 1))) := by
  intro i hi
  have := h i hi
  unfold ownAt ownV at this
  by_cases h1 : (nd ns i).kind < 1 ∨ 7 < (nd ns i).kind
  ·rw [if_pos h1] at this
   exact absurd this (by decide)
  ·rw [if_neg h1] at this
   by_cases h2 : (nd ns i).depth < 0 ∨ 4 < (nd ns i).depth ∨ most (if i = 0 then none else some (nd ns (i - 1))) < (nd ns i).depth
   ·rw [if_pos h2] at this
    exact absurd this (by decide)
   ·unfold kd dp
    omega
 refine ⟨fun i hi => (key i hi).2.1, fun h0 => ?_, fun i hi => ?_, fun i hi hl => ?_, fun i hi => (key i hi).1⟩
 ·have := key 0 h0
  rw [if_pos rfl] at this
  have e0 : most none = 0 := rfl
  rw [e0] at this
  omega
 ·have := (key (i + 1) hi).2.2
  rw [if_neg (by omega), Nat.add_sub_cancel] at this
  unfold most at this
  simp only at this
  unfold dp at this ⊢
  split at this <;> omega
 ·have := (key (i + 1) hi).2.2
  rw [if_neg (by omega), Nat.add_sub_cancel] at this
  unfold most at this
  simp only at this
  unfold kd at hl
  rw [if_pos hl] at this
  exact this
def endV (ns : List Node) (i : Nat) : Nat := i + 1 + ((ns.drop (i + 1)).takeWhile fun x => decide (dp ns i < x.depth)).length
theorem end_gt (ns : List Node) (i : Nat) : i < endV ns i := by unfold endV; omega
theorem tw_le {α : Type} (p : α → Bool) : ∀ l : List α, (l.takeWhile p).length ≤ l.length
 | [] => Nat.le_refl _
 | a :: l => by
  rw [List.takeWhile_cons]
  split
  ·have := tw_le p l
   simp only [List.length_cons]
   omega
  ·exact Nat.zero_le _
theorem tw_in {α : Type} (p : α → Bool) : ∀ (l : List α) (k : Nat), k < (l.takeWhile p).length → ∃ a, l[k]? = some a ∧ p a = true
 | [], k, h => absurd h (by simp)
 | a :: l, k, h => by
  rw [List.takeWhile_cons] at h
  split at h
  ·rename_i hp
   cases k with
   | zero => exact ⟨a, rfl, hp⟩
   | succ k => exact tw_in p l k (by simpa using h)
  ·simp at h
theorem tw_at {α : Type} (p : α → Bool) : ∀ (l : List α) (a : α), l[(l.takeWhile p).length]? = some a → p a = false
 | [], a, h => by simp at h
 | b :: l, a, h => by
  rw [List.takeWhile_cons] at h
  split at h
  ·exact tw_at p l a (by simpa using h)
  ·rename_i hp
   simp at h
   subst h
   simpa using hp
theorem end_le {ns : List Node} {i : Nat} (h : i < ns.length) : endV ns i ≤ ns.length := by
 have := tw_le (fun x : Node => decide (dp ns i < x.depth)) (ns.drop (i + 1))
 rw [List.length_drop] at this
 unfold endV
 omega
theorem dp_of {ns : List Node} {k : Nat} {a : Node} (h : ns[k]? = some a) : dp ns k = a.depth := by unfold dp nd; rw [h]; rfl
theorem end_in {ns : List Node} {i k : Nat} (h1 : i < k) (h2 : k < endV ns i) : k < ns.length ∧ dp ns i < dp ns k := by
 unfold endV at h2
 obtain ⟨a, ha, hp⟩ := tw_in (fun x : Node => decide (dp ns i < x.depth)) (ns.drop (i + 1)) (k - (i + 1)) (by omega)
 rw [List.getElem?_drop, show i + 1 + (k - (i + 1)) = k by omega] at ha
 refine ⟨(List.getElem?_eq_some_iff.1 ha).1, ?_⟩
 rw [dp_of ha]
 simpa using hp
theorem end_at {ns : List Node} {i : Nat} (h : endV ns i < ns.length) : dp ns (endV ns i) ≤ dp ns i := by
 obtain ⟨a, ha⟩ : ∃ a, ns[endV ns i]? = some a := ⟨_, List.getElem?_eq_getElem h⟩
 have h2 : (ns.drop (i + 1))[((ns.drop (i + 1)).takeWhile fun x => decide (dp ns i < x.depth)).length]? = some a := by
  rw [List.getElem?_drop]
  exact ha
 have := tw_at _ _ _ h2
 rw [dp_of ha]
 simpa using this
theorem end_eq {ns : List Node} {i e : Nat} (h1 : i < e) (h2 : ∀ k, i < k → k < e → dp ns i < dp ns k) (h3 : e = ns.length ∨ (e < ns.length ∧ dp ns e ≤ dp ns i)) : endV ns i = e := by
 rcases Nat.lt_trichotomy (endV ns i) e with q | q | q
 ·have hl : endV ns i < ns.length := by rcases h3 with h | ⟨h, -⟩ <;> omega
  have a := end_at hl
  have b := h2 (endV ns i) (end_gt _ _) q
  omega
 ·exact q
 ·have a := end_in h1 q
  rcases h3 with h | ⟨-, h⟩ <;> omega
def kidsV (ns : List Node) (i : Nat) : List Nat := (List.range' (i + 1) (endV ns i - (i + 1))).filter fun k => decide (dp ns k = dp ns i + 1)
theorem mem_kids {ns : List Node} {i k : Nat} : k ∈ kidsV ns i ↔ i < k ∧ k < endV ns i ∧ dp ns k = dp ns i + 1 := by
 have := end_gt ns i
 unfold kidsV
 rw [List.mem_filter, List.mem_range'_1, decide_eq_true_eq]
 omega
def jump (ns : List Node) : Nat → Nat → Nat → List Nat
 | 0, _, _ => []
 | f + 1, k, e => if k < e then k :: jump ns f (endV ns k) e else []
theorem jump_kids {ns : List Node} {i e : Nat} (he : e ≤ ns.length) (hin : ∀ k, i < k → k < e → dp ns i < dp ns k) (hend : e = ns.length ∨ dp ns e ≤ dp ns i) : ∀ (f k : Nat), e - k ≤ f → i < k → k ≤ e → (k < e → dp ns k = dp ns i + 1) →
  jump ns f k e = (List.range' k (e - k)).filter fun j => decide (dp ns j = dp ns i + 1) := by
 intro f
 induction f with
 | zero =>
  intro k hf _ _ _
  have : e - k = 0 := by omega
  rw [this]
  rfl
 | succ f ih =>
  intro k hf hk hke h1
  unfold jump
  by_cases h : k < e
  ·rw [if_pos h]
   have hdk := h1 h
   have hgt := end_gt ns k
   have hle : endV ns k ≤ e := by
    refine Nat.le_of_not_lt fun q => ?_
    have a := end_in h q
    rcases hend with e2 | e2 <;> omega
   have hnx : endV ns k < e → dp ns (endV ns k) = dp ns i + 1 := fun q => by
    have a := end_at (ns := ns) (i := k) (by omega)
    have b := hin (endV ns k) (by omega) q
    omega
   rw [ih (endV ns k) (by omega) (by omega) hle hnx]
   have e1 : List.range' k (e - k) = k :: (List.range' (k + 1) (endV ns k - (k + 1)) ++ List.range' (endV ns k) (e - endV ns k)) := by
    have e2 : e - k = (e - k - 1) + 1 := by omega
    rw [e2, List.range'_succ]
    congr 1
    have e3 := List.range'_append (s := k + 1) (m := endV ns k - (k + 1)) (n := e - endV ns k) (step := 1)
    rw [Nat.one_mul, show k + 1 + (endV ns k - (k + 1)) = endV ns k by omega, show endV ns k - (k + 1) + (e - endV ns k) = e - k - 1 by omega] at e3
    exact e3.symm
   rw [e1, List.filter_cons, if_pos (by simp [hdk]), List.filter_append]
   have e4 : (List.range' (k + 1) (endV ns k - (k + 1))).filter (fun j => decide (dp ns j = dp ns i + 1)) = [] := by
    rw [List.filter_eq_nil_iff]
    intro j hj
    rw [List.mem_range'_1] at hj
    have := (end_in (ns := ns) (i := k) (k := j) (by omega) (by omega)).2
    simp
    omega
   rw [e4, List.nil_append]
  ·rw [if_neg h]
   have : e - k = 0 := by omega
   rw [this]
   rfl
theorem jump_eq {ns : List Node} {i : Nat} (hd : Deep ns) (hi : i < ns.length) {f : Nat} (hf : ns.length ≤ f) : jump ns f (i + 1) (endV ns i) = kidsV ns i := by
 have hle := end_le hi
 have hgt := end_gt ns i
 refine jump_kids hle (fun k h1 h2 => (end_in h1 h2).2) ?_ f (i + 1) (by omega) (by omega) (by omega) fun h => ?_
 ·rcases Nat.lt_or_ge (endV ns i) ns.length with q | q
  ·exact .inr (end_at q)
  ·exact .inl (by omega)
 ·have a := (end_in (ns := ns) (i := i) (k := i + 1) (by omega) h).2
  have b := hd.step i (by omega)
  omega
def parV (ns : List Node) (i : Nat) : Option Nat := (List.range i).reverse.find? fun k => decide (dp ns k < dp ns i)
theorem par_some {ns : List Node} {i p : Nat} (h : parV ns i = some p) : p < i ∧ dp ns p < dp ns i ∧ ∀ k, p < k → k < i → dp ns i ≤ dp ns k := by
 unfold parV at h
 have h1 := List.find?_some h
 have h2 := List.mem_of_find?_eq_some h
 rw [List.mem_reverse, List.mem_range] at h2
 refine ⟨h2, by simpa using h1, fun k hk hki => ?_⟩
 obtain ⟨xs, ys, e, hno⟩ := (List.find?_eq_some_iff_append.1 h).2
 refine Int.not_lt.1 fun q => ?_
 have hm : k ∈ (List.range i).reverse := by rw [List.mem_reverse, List.mem_range]; exact hki
 have hs : (List.range i).reverse.Pairwise (· > ·) := by
  rw [List.pairwise_reverse]
  exact List.pairwise_lt_range
 rw [e] at hm hs
 rcases List.mem_append.1 hm with hm | hm
 ·have := hno k hm
  simp [q] at this
 ·rcases List.mem_cons.1 hm with rfl | hm
  ·omega
  ·have := List.pairwise_append.1 hs
   have := (List.pairwise_cons.1 this.2.1).1 k hm
   omega
theorem par_kid {ns : List Node} (hd : Deep ns) {i : Nat} (hi : i < ns.length) (h0 : 0 < dp ns i) : ∃ p, parV ns i = some p ∧ p < i ∧ dp ns i = dp ns p + 1 ∧ i ∈ kidsV ns p := by
 have hi0 : 0 < i := by
  refine Nat.pos_of_ne_zero fun e => ?_
  subst e
  rw [hd.first hi] at h0
  omega
 cases hp : parV ns i with
 | none =>
  exfalso
  unfold parV at hp
  rw [List.find?_eq_none] at hp
  have := hp 0 (by rw [List.mem_reverse, List.mem_range]; exact hi0)
  rw [hd.first (by omega)] at this
  simp [h0] at this
 | some p =>
  obtain ⟨h1, h2, h3⟩ := par_some hp
  have hstep : dp ns (p + 1) ≤ dp ns p + 1 := hd.step p (by omega)
  have hge : dp ns i ≤ dp ns (p + 1) := by
   rcases Nat.lt_or_ge (p + 1) i with q | q
   ·exact h3 (p + 1) (by omega) q
   ·have : i = p + 1 := by omega
    rw [this]
    exact Int.le_refl _
  have hde : dp ns i = dp ns p + 1 := by omega
  refine ⟨p, rfl, h1, hde, mem_kids.2 ⟨h1, ?_, hde⟩⟩
  refine Nat.lt_of_not_le fun q => ?_
  have hl : endV ns p < ns.length := by omega
  have a := end_at hl
  have hg := end_gt ns p
  rcases Nat.lt_or_ge (endV ns p) i with r | r
  ·have := h3 _ hg r
   omega
  ·have : endV ns p = i := by omega
   rw [this] at a
   omega
theorem kid_par {ns : List Node} {p k : Nat} (h : k ∈ kidsV ns p) : parV ns k = some p := by
 obtain ⟨h1, h2, h3⟩ := mem_kids.1 h
 have hin : ∀ j, p < j → j < k → dp ns p < dp ns j := fun j a b => (end_in a (by omega)).2
 cases hp : parV ns k with
 | none =>
  exfalso
  unfold parV at hp
  rw [List.find?_eq_none] at hp
  have := hp p (by rw [List.mem_reverse, List.mem_range]; exact h1)
  simp at this
  omega
 | some q =>
  obtain ⟨a, b, c⟩ := par_some hp
  rcases Nat.lt_trichotomy q p with r | r | r
  ·have := c p r h1
   omega
  ·rw [r]
  ·have := hin q r a
   omega
def pkV (ns : List Node) (i : Nat) : Int := match parV ns i with
 | some p => kd ns p
 | none => 0
def famP (ns : List Node) (i : Nat) : Prop :=
 (kd ns i ≠ 5 → ∀ k ∈ kidsV ns i, kd ns k ≠ 7) ∧
 (kd ns i = 2 → 2 ≤ (kidsV ns i).length ∧ (kidsV ns i).length ≤ 6 ∧ ∀ k ∈ kidsV ns i, kd ns k ≠ 2) ∧
 (kd ns i = 3 → 2 ≤ (kidsV ns i).length ∧ (kidsV ns i).length ≤ 6 ∧ ∀ k ∈ kidsV ns i, kd ns k ≠ 3) ∧
 (kd ns i = 4 → (kidsV ns i).length = 2 ∧ ∀ k ∈ kidsV ns i, kd ns k = 1) ∧
 (kd ns i = 5 → 1 ≤ (kidsV ns i).length ∧ (kidsV ns i).length ≤ 6 ∧ (∀ k ∈ kidsV ns i, kd ns k ≠ 2) ∧ dp ns i = 0 ∧ ((∀ k ∈ kidsV ns i, kd ns k ≠ 7) ∨ (kidsV ns i).length = 1)) ∧
 (kd ns i = 7 → 2 ≤ (kidsV ns i).length ∧ (kidsV ns i).length ≤ 6 ∧ (∀ k ∈ kidsV ns i, kd ns k ≠ 2) ∧ (dp ns i = 0 ∨ pkV ns i = 5))
def lowV (k : Int) : Nat := if leafB k = true then 0 else if k = 5 then 1 else 2
def highV (k : Int) : Nat := if leafB k = true then 0 else if k = 4 then 2 else 6
def famR (ns : List Node) (i : Nat) : Prop :=
 (lowV (kd ns i) ≤ (kidsV ns i).length ∧ (kidsV ns i).length ≤ highV (kd ns i)) ∧
 (kd ns i = 5 → dp ns i ≤ 0) ∧
 (kd ns i = 7 → 0 < dp ns i → ∃ p, parV ns i = some p ∧ kd ns p = 5 ∧ (kidsV ns p).length = 1) ∧
 ∀ k ∈ kidsV ns i, (kd ns i = 4 → kd ns k = 1) ∧ ((kd ns i = 2 ∨ kd ns i = 5 ∨ kd ns i = 7) → kd ns k ≠ 2) ∧ (kd ns i = 3 → kd ns k ≠ 3) ∧ (kd ns i = 7 → kd ns k ≠ 7)
theorem leaf_kids {ns : List Node} (hd : Deep ns) {i : Nat} (hi : i < ns.length) (hl : leafB (kd ns i) = true) : kidsV ns i = [] := by
 have : endV ns i = i + 1 := by
  refine end_eq (by omega) (fun k a b => by omega) ?_
  rcases Nat.lt_or_ge (i + 1) ns.length with q | q
  ·exact .inr ⟨q, hd.leaf i q hl⟩
  ·exact .inl (by omega)
 unfold kidsV
 rw [this, Nat.sub_self]
 rfl
theorem leaf_iff {k : Int} : leafB k = true ↔ k = 1 ∨ k = 6 := by unfold leafB; simp
theorem fam_iff {ns : List Node} (hd : Deep ns) : (∀ i, i < ns.length → famP ns i) ↔ ∀ i, i < ns.length → famR ns i := by
 constructor
 ·intro h i hi
  obtain ⟨p0, p2, p3, p4, p5, p7⟩ := h i hi
  obtain ⟨hk1, hk7⟩ := hd.kinds i hi
  by_cases hl : leafB (kd ns i) = true
  ·have hks := leaf_kids hd hi hl
   have hl' := leaf_iff.1 hl
   refine ⟨?_, fun e => by omega, fun e => by omega, fun k hk => by rw [hks] at hk; cases hk⟩
   unfold lowV highV
   rw [if_pos hl, if_pos hl, hks]
   exact ⟨Nat.le_refl _, Nat.le_refl _⟩
  ·have hl' : kd ns i ≠ 1 ∧ kd ns i ≠ 6 := ⟨fun e => hl (leaf_iff.2 (.inl e)), fun e => hl (leaf_iff.2 (.inr e))⟩
   refine ⟨?_, fun e => by have := (p5 e).2.2.2.1; omega, fun e h0 => ?_, fun k hk => ⟨fun e => (p4 e).2 k hk, fun e => ?_, fun e => (p3 e).2.2 k hk, fun e => p0 (by omega) k hk⟩⟩
   ·unfold lowV highV
    rw [if_neg hl, if_neg hl]
    by_cases e5 : kd ns i = 5
    ·rw [if_pos e5, if_neg (by omega)]
     exact ⟨(p5 e5).1, (p5 e5).2.1⟩
    ·rw [if_neg e5]
     by_cases e4 : kd ns i = 4
     ·rw [if_pos e4]
      have := (p4 e4).1
      omega
     ·rw [if_neg e4]
      by_cases e2 : kd ns i = 2
      ·exact ⟨(p2 e2).1, (p2 e2).2.1⟩
      ·by_cases e3 : kd ns i = 3
       ·exact ⟨(p3 e3).1, (p3 e3).2.1⟩
       ·have e7 : kd ns i = 7 := by omega
        exact ⟨(p7 e7).1, (p7 e7).2.1⟩
   ·obtain ⟨p, hp, hpi, hde, hmem⟩ := par_kid hd hi h0
    have hk5 : kd ns p = 5 := by
     rcases (p7 e).2.2.2 with q | q
     ·omega
     ·unfold pkV at q
      rw [hp] at q
      exact q
    refine ⟨p, hp, hk5, ?_⟩
    rcases ((h p (by omega)).2.2.2.2.1 hk5).2.2.2.2 with q | q
    ·exact absurd e (q i hmem)
    ·exact q
   ·rcases e with e | e | e
    ·exact (p2 e).2.2 k hk
    ·exact (p5 e).2.2.1 k hk
    ·exact (p7 e).2.2.1 k hk
 ·intro h i hi
  obtain ⟨⟨r1, r2⟩, r3, r4, r5⟩ := h i hi
  have hon : ∀ k ∈ kidsV ns i, kd ns k = 7 → kd ns i = 5 ∧ (kidsV ns i).length = 1 := by
   intro k hk e
   have hm := mem_kids.1 hk
   have hkl := (end_in hm.1 hm.2.1).1
   have hp0 := hd.pos i hi
   obtain ⟨p, hp, h5, h6⟩ := (h k hkl).2.2.1 e (by omega)
   rw [kid_par hk] at hp
   cases hp
   exact ⟨h5, h6⟩
  unfold lowV at r1
  unfold highV at r2
  have ln : ∀ q : Int, kd ns i = q → q ≠ 1 → q ≠ 6 → leafB (kd ns i) ≠ true := fun q e a b hl => by
   rcases leaf_iff.1 hl with c | c <;> omega
  refine ⟨fun e k hk e7 => e (hon k hk e7).1, fun e => ?_, fun e => ?_, fun e => ?_, fun e => ?_, fun e => ?_⟩
  ·rw [if_neg (ln 2 e (by decide) (by decide)), if_neg (by omega)] at r1 r2
   exact ⟨r1, r2, fun k hk => (r5 k hk).2.1 (.inl e)⟩
  ·rw [if_neg (ln 3 e (by decide) (by decide)), if_neg (by omega)] at r1 r2
   exact ⟨r1, r2, fun k hk => (r5 k hk).2.2.1 e⟩
  ·rw [if_neg (ln 4 e (by decide) (by decide))] at r1 r2
   rw [if_neg (by omega)] at r1
   rw [if_pos e] at r2
   exact ⟨by omega, fun k hk => (r5 k hk).1 e⟩
  ·rw [if_neg (ln 5 e (by decide) (by decide))] at r1 r2
   rw [if_pos e] at r1
   rw [if_neg (by omega)] at r2
   refine ⟨r1, r2, fun k hk => (r5 k hk).2.1 (.inr (.inl e)), by have a := r3 e; have b := hd.pos i hi; omega, ?_⟩
   by_cases hh : ∃ k ∈ kidsV ns i, kd ns k = 7
   ·obtain ⟨k, hk, e7⟩ := hh
    exact .inr (hon k hk e7).2
   ·exact .inl fun k hk e7 => hh ⟨k, hk, e7⟩
  ·rw [if_neg (ln 7 e (by decide) (by decide)), if_neg (by omega)] at r1 r2
   refine ⟨r1, r2, fun k hk => (r5 k hk).2.1 (.inr (.inr e)), ?_⟩
   have hp0 := hd.pos i hi
   by_cases h0 : 0 < dp ns i
   ·obtain ⟨p, hp, h5, -⟩ := r4 e h0
    right
    unfold pkV
    rw [hp]
    exact h5
   ·left
    omega
end Tx
namespace Tx
open Go
instance (ns : List Node) (i : Nat) : Decidable (famP ns i) := by unfold famP; infer_instance
def famB (ns : List Node) (i : Nat) : Bool := decide (famP ns i)
def checkT (l : Sg.SList) (ns : List Node) : Int :=
 if Sg.checkV l ≠ 0 then Sg.checkV l else if 200 < ns.length then 2 else if Sg.firstE (ownAt l ns) ns.length ≠ 0 then Sg.firstE (ownAt l ns) ns.length else if (List.range ns.length).all (famB ns) = true then 0 else 20
theorem fam_all {ns : List Node} : (List.range ns.length).all (famB ns) = true ↔ ∀ i, i < ns.length → famP ns i := by
 rw [List.all_eq_true]
 simp only [List.mem_range, famB, decide_eq_true_eq]
theorem check_ref {l : Sg.SList} {ns : List Node} (h : ∀ i, i < ns.length → ownAt l ns i = 0) : ((List.range ns.length).all (famB ns) = true ↔ ∀ i, i < ns.length → famR ns i) := fam_all.trans (fam_iff (deep_of h))
end Tx
namespace Cd
open Go
inductive Item where
 | mk (n : Tx.Node) (code : List UInt8) (at_ : Nat) (kids : List Item)
def Item.node : Item → Tx.Node | .mk n _ _ _ => n
def Item.code : Item → List UInt8 | .mk _ c _ _ => c
def Item.pos : Item → Nat | .mk _ _ p _ => p
def Item.kids : Item → List Item | .mk _ _ _ k => k
inductive R (α : Type) where
 | bad (k : Nat)
 | ok (x : α) (k : Nat)
def R.bind {α β : Type} (r : R α) (f : α → Nat → R β) : R β := match r with
 | .bad k => .bad k
 | .ok x k => f x k
def kindN (k : Int) : Tx.Node := ⟨k, 0, 0, 0, false, 0, 0, 0⟩
def gapN (a b : Int) : Tx.Node := ⟨6, 0, 0, 0, false, 0, a, b⟩
def glyphN (turn : Int) (m : Bool) (st : Int) : Tx.Node := ⟨1, 0, 0, turn, m, st, 0, 0⟩
section
variable (s : List UInt8)
def sees (k : Nat) (c : UInt8) : Bool := decide (s[k]? = some c)
def must (k : Nat) (c : UInt8) : R Unit := if sees s k c = true then .ok () (k + 1) else .bad k
def digitG (lo hi : UInt8) (k : Nat) : R Int := match s[k]? with
 | some c => if lo ≤ c ∧ c ≤ hi then .ok ((c.toNat : Int) - 48) (k + 1) else .bad k
 | none => .bad k
def upperB (c : UInt8) : Bool := decide (65 ≤ c ∧ c ≤ 90)
def wordB (c : UInt8) : Bool := upperB c || decide (97 ≤ c ∧ c ≤ 122) || decide (48 ≤ c ∧ c ≤ 57)
def codeEnd (k : Nat) : Nat := k + 1 + (((s.drop (k + 1)).take 7).takeWhile wordB).length
def stateOf (o : Option UInt8) : Int := if o = some 35 then 1 else if o = some 61 then 2 else if o = some 33 then 3 else 0
def turnG (k : Nat) : R Int := if sees s k 47 = true then digitG s 49 51 (k + 1) else .ok 0 k
def glyphG (line : Bool) (k : Nat) : R Item := match s[k]? with
 | some c =>
  if upperB c = true then
   let e := codeEnd s k
   let m := sees s e 92
   let e1 := if m = true then e + 1 else e
   (turnG s e1).bind fun t e2 =>
    let st := if line = true then stateOf s[e2]? else 0
    .ok (.mk (glyphN t m st) ((s.drop k).take (e - k)) k []) (if st = 0 then e2 else e2 + 1)
  else .bad k
 | none => .bad k
def leafG (k : Nat) : R Item :=
 if sees s k 123 = true then
  (digitG s 48 57 (k + 1)).bind fun a k1 => (must s k1 45).bind fun _ k2 => (digitG s 48 57 k2).bind fun b k3 => (must s k3 125).bind fun _ k4 => .ok (.mk (gapN a b) [] 0 []) k4
 else glyphG s true k
def sepG (p : Nat → R Item) (c : UInt8) : Nat → Nat → R (List Item)
 | 0, k => .bad k
 | n + 1, k => (p k).bind fun x k1 => if sees s k1 c = true then (sepG p c n (k1 + 1)).bind fun xs k2 => .ok (x :: xs) k2 else .ok [x] k1
def one (kind : Int) : List Item → Item
 | [x] => x
 | xs => .mk (kindN kind) [] 0 xs
def N : Nat := s.length + 1
def besideG (ov : Nat → R (Item × Bool)) (k : Nat) : R Item :=
 (ov k).bind fun x k1 => if x.2 = true ∧ sees s k1 42 = false then .bad k1
  else if sees s k1 42 = true then (sepG s (fun j => (ov j).bind fun y j1 => .ok y.1 j1) 42 (N s) (k1 + 1)).bind fun xs k2 => .ok (one 2 (x.1 :: xs)) k2
  else .ok x.1 k1
def aboveG (ov : Nat → R (Item × Bool)) (within : Bool) (k : Nat) : R Item :=
 (besideG s ov k).bind fun x k1 => if within = true ∧ sees s k1 58 = false then .bad k1
  else if sees s k1 58 = true then (sepG s (besideG s ov) 58 (N s) (k1 + 1)).bind fun xs k2 => .ok (one 3 (x :: xs)) k2
  else .ok x k1
def overG : Nat → Nat → R (Item × Bool)
 | 0, k => .bad k
 | f + 1, k => if sees s k 40 = true then (aboveG s (overG f) true (k + 1)).bind fun x k1 => (must s k1 41).bind fun _ k2 => .ok (x, true) k2
  else (leafG s k).bind fun x k1 => if sees s k1 38 = true then (leafG s (k1 + 1)).bind fun y k2 => .ok (.mk (kindN 4) [] 0 [x, y], false) k2 else .ok (x, false) k1
def partG (k : Nat) : R Item :=
 if sees s k 91 = true then (sepG s (aboveG s (overG s (N s)) false) 59 (N s) (k + 1)).bind fun xs k1 => (must s k1 93).bind fun _ k2 => .ok (.mk (kindN 7) [] 0 xs) k2
 else aboveG s (overG s (N s)) false k
def groupG (k : Nat) : R Item :=
 if sees s k 60 = true then (sepG s (partG s) 45 (N s) (k + 1)).bind fun xs k1 => (must s k1 62).bind fun _ k2 => .ok (.mk (kindN 5) [] 0 xs) k2
 else partG s k
def wordOf (k : Int) : List UInt8 := if k = 2 then [98, 101, 115, 105, 100, 101] else if k = 3 then [97, 98, 111, 118, 101] else if k = 4 then [111, 118, 101, 114] else if k = 5 then [114, 105, 110, 103] else [104, 111, 110, 111, 117, 114]
def commonL : List UInt8 → List UInt8 → Nat
 | a :: l, b :: m => if a = b then commonL l m + 1 else 0
 | _, _ => 0
def kindAt (o : Option UInt8) : Int := if o = some 98 then 2 else if o = some 97 then 3 else if o = some 111 then 4 else if o = some 114 then 5 else if o = some 104 then 7 else 0
def wordG (k : Nat) : R Int :=
 let q := kindAt s[k]?
 if q = 0 then .bad k else if commonL (s.drop k) (wordOf q) = (wordOf q).length then .ok q (k + (wordOf q).length) else .bad (k + commonL (s.drop k) (wordOf q))
def treeG : Nat → Nat → R Item
 | 0, k => .bad k
 | f + 1, k => if sees s k 63 = true then
   let n := ((s.drop k).takeWhile fun c => decide (c = 63)).length
   .ok (.mk (gapN n n) [] 0 []) (k + n)
  else if sees s k 40 = true then (wordG s (k + 1)).bind fun q k1 => (must s k1 32).bind fun _ k2 => (sepG s (treeG f) 32 (N s) k2).bind fun xs k3 => (must s k3 41).bind fun _ k4 => .ok (.mk (kindN q) [] 0 xs) k4
  else glyphG s false k
def parseG (kind : Int) : R (List Item) :=
 if s = [] then .ok [] 0
 else (if kind = 1 then sepG s (groupG s) 45 (N s) 0 else sepG s (treeG s (N s)) 32 (N s) 0).bind fun xs k => if k < s.length then .bad k else .ok xs k
end
mutual
def flatI (d : Int) : Item → List Tx.Node
 | .mk n _ _ ks => { n with depth := d } :: flatL (d + 1) ks
def flatL (d : Int) : List Item → List Tx.Node
 | [] => []
 | x :: xs => flatI d x ++ flatL d xs
end
def deeper (e : Int) (n : Tx.Node) : Tx.Node := { n with depth := n.depth + e }
mutual
theorem flatI_shift (d e : Int) : ∀ x : Item, flatI (d + e) x = (flatI d x).map (deeper e)
 | .mk n c p ks => by
  rw [flatI, flatI, List.map_cons]
  congr 1
  have h := flatL_shift (d + 1) e ks
  rw [← h]
  congr 1
  omega
theorem flatL_shift (d e : Int) : ∀ xs : List Item, flatL (d + e) xs = (flatL d xs).map (deeper e)
 | [] => by rw [flatL, flatL]; rfl
 | x :: xs => by rw [flatL, flatL, List.map_append, flatI_shift d e x, flatL_shift d e xs]
end
mutual
def codesI : Item → List (List UInt8 × Nat)
 | .mk n c p ks => (if n.kind = 1 then [(c, p)] else []) ++ codesL ks
def codesL : List Item → List (List UInt8 × Nat)
 | [] => []
 | x :: xs => codesI x ++ codesL xs
end
end Cd
