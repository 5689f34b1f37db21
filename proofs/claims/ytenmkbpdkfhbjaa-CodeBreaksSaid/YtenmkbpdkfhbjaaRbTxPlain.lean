/- Texts: what Check says of them: plain law. -/
import Derived.Test.YtenmkbpdkfhbjaaRbSgPlain
import Derived.Test.YtenmkbpdkfhbjaaRbFmtPlain
namespace Tx
open Go
structure Node where
  kind : Int
  depth : Int
  sign : Int
  turn : Int
  mirror : Bool
  state : Int
  lo : Int
  hi : Int
  deriving DecidableEq
def zeroN : Node := ⟨0, 0, 0, 0, false, 0, 0, 0⟩
def leafB (k : Int) : Bool := decide (k = 1) || decide (k = 6)
def nd (ns : List Node) (i : Nat) : Node := ns[i]?.getD zeroN
def dp (ns : List Node) (i : Nat) : Int := (nd ns i).depth
def kd (ns : List Node) (i : Nat) : Int := (nd ns i).kind
/-- how deep a node may lie behind another one -/
def most (b : Option Node) : Int := match b with
  | none => 0
  | some b => if leafB b.kind = true then b.depth else b.depth + 1
def evenAt (l : Sg.SList) (k : Int) : Bool := match l.signs[k.toNat]? with
  | some s => s.even
  | none => false
/-- the error of a node by itself -/
def ownV (l : Sg.SList) (b : Option Node) (n : Node) : Int :=
  if n.kind < 1 ∨ 7 < n.kind then 20
  else if n.depth < 0 ∨ 4 < n.depth ∨ most b < n.depth then 21
  else if n.kind = 1 then
    if n.sign < 0 ∨ (l.signs.length : Int) ≤ n.sign then 23
    else if n.turn < 0 ∨ 3 < n.turn ∨ n.state < 0 ∨ 3 < n.state ∨ (n.mirror = true ∧ evenAt l n.sign = true) then 20
    else if n.lo ≠ 0 ∨ n.hi ≠ 0 then 20 else 0
  else if n.kind = 6 then
    if n.lo < 0 ∨ n.hi < n.lo ∨ 9 < n.hi ∨ n.hi < 1 then 22
    else if n.sign ≠ 0 ∨ n.turn ≠ 0 ∨ n.mirror = true ∨ n.state ≠ 0 then 20 else 0
  else if n.sign ≠ 0 ∨ n.turn ≠ 0 ∨ n.mirror = true ∨ n.state ≠ 0 ∨ n.lo ≠ 0 ∨ n.hi ≠ 0 then 20 else 0
def ownAt (l : Sg.SList) (ns : List Node) (i : Nat) : Int := ownV l (if i = 0 then none else some (nd ns (i - 1))) (nd ns i)
/-- the depths are those of a text -/
structure Deep (ns : List Node) : Prop where
  pos : ∀ i, i < ns.length → 0 ≤ dp ns i
  first : 0 < ns.length → dp ns 0 = 0
  step : ∀ i, i + 1 < ns.length → dp ns (i + 1) ≤ dp ns i + 1
  leaf : ∀ i, i + 1 < ns.length → leafB (kd ns i) = true → dp ns (i + 1) ≤ dp ns i
  kinds : ∀ i, i < ns.length → 1 ≤ kd ns i ∧ kd ns i ≤ 7
theorem deep_of {l : Sg.SList} {ns : List Node} (h : ∀ i, i < ns.length → ownAt l ns i = 0) : Deep ns := by
  have key : ∀ i, i < ns.length → (1 ≤ kd ns i ∧ kd ns i ≤ 7) ∧ 0 ≤ dp ns i ∧ dp ns i ≤ most (if i = 0 then none else some (nd ns (i - 1))) := by
    intro i hi
    have := h i hi
    unfold ownAt ownV at this
    by_cases h1 : (nd ns i).kind < 1 ∨ 7 < (nd ns i).kind
    · rw [if_pos h1] at this
      exact absurd this (by decide)
    · rw [if_neg h1] at this
      by_cases h2 : (nd ns i).depth < 0 ∨ 4 < (nd ns i).depth ∨ most (if i = 0 then none else some (nd ns (i - 1))) < (nd ns i).depth
      · rw [if_pos h2] at this
        exact absurd this (by decide)
      · unfold kd dp
        omega
  refine ⟨fun i hi => (key i hi).2.1, fun h0 => ?_, fun i hi => ?_, fun i hi hl => ?_, fun i hi => (key i hi).1⟩
  · have := key 0 h0
    rw [if_pos rfl] at this
    have e0 : most none = 0 := rfl
    rw [e0] at this
    omega
  · have := (key (i + 1) hi).2.2
    rw [if_neg (by omega), Nat.add_sub_cancel] at this
    unfold most at this
    simp only at this
    unfold dp at this ⊢
    split at this <;> omega
  · have := (key (i + 1) hi).2.2
    rw [if_neg (by omega), Nat.add_sub_cancel] at this
    unfold most at this
    simp only at this
    unfold kd at hl
    rw [if_pos hl] at this
    exact this
/-- the first node behind a node and all below it -/
def endV (ns : List Node) (i : Nat) : Nat := i + 1 + ((ns.drop (i + 1)).takeWhile fun x => decide (dp ns i < x.depth)).length
theorem end_gt (ns : List Node) (i : Nat) : i < endV ns i := by unfold endV; omega
theorem tw_le {α : Type} (p : α → Bool) : ∀ l : List α, (l.takeWhile p).length ≤ l.length
  | [] => Nat.le_refl _
  | a :: l => by
    rw [List.takeWhile_cons]
    split
    · have := tw_le p l
      simp only [List.length_cons]
      omega
    · exact Nat.zero_le _
theorem tw_in {α : Type} (p : α → Bool) : ∀ (l : List α) (k : Nat), k < (l.takeWhile p).length → ∃ a, l[k]? = some a ∧ p a = true
  | [], k, h => absurd h (by simp)
  | a :: l, k, h => by
    rw [List.takeWhile_cons] at h
    split at h
    · rename_i hp
      cases k with
      | zero => exact ⟨a, rfl, hp⟩
      | succ k => exact tw_in p l k (by simpa using h)
    · simp at h
theorem tw_at {α : Type} (p : α → Bool) : ∀ (l : List α) (a : α), l[(l.takeWhile p).length]? = some a → p a = false
  | [], a, h => by simp at h
  | b :: l, a, h => by
    rw [List.takeWhile_cons] at h
    split at h
    · exact tw_at p l a (by simpa using h)
    · rename_i hp
      simp at h
      subst h
      simpa using hp
theorem end_le {ns : List Node} {i : Nat} (h : i < ns.length) : endV ns i ≤ ns.length := by
  have := tw_le (fun x : Node => decide (dp ns i < x.depth)) (ns.drop (i + 1))
  rw [List.length_drop] at this
  unfold endV
  omega
theorem dp_of {ns : List Node} {k : Nat} {a : Node} (h : ns[k]? = some a) : dp ns k = a.depth := by unfold dp nd; rw [h]; rfl
theorem end_in {ns : List Node} {i k : Nat} (h1 : i < k) (h2 : k < endV ns i) : k < ns.length ∧ dp ns i < dp ns k := by
  unfold endV at h2
  obtain ⟨a, ha, hp⟩ := tw_in (fun x : Node => decide (dp ns i < x.depth)) (ns.drop (i + 1)) (k - (i + 1)) (by omega)
  rw [List.getElem?_drop, show i + 1 + (k - (i + 1)) = k by omega] at ha
  refine ⟨(List.getElem?_eq_some_iff.1 ha).1, ?_⟩
  rw [dp_of ha]
  simpa using hp
theorem end_at {ns : List Node} {i : Nat} (h : endV ns i < ns.length) : dp ns (endV ns i) ≤ dp ns i := by
  obtain ⟨a, ha⟩ : ∃ a, ns[endV ns i]? = some a := ⟨_, List.getElem?_eq_getElem h⟩
  have h2 : (ns.drop (i + 1))[((ns.drop (i + 1)).takeWhile fun x => decide (dp ns i < x.depth)).length]? = some a := by
    rw [List.getElem?_drop]
    exact ha
  have := tw_at _ _ _ h2
  rw [dp_of ha]
  simpa using this
/-- what follows a node within it ends where all that is deeper ends -/
theorem end_eq {ns : List Node} {i e : Nat} (h1 : i < e) (h2 : ∀ k, i < k → k < e → dp ns i < dp ns k) (h3 : e = ns.length ∨ (e < ns.length ∧ dp ns e ≤ dp ns i)) : endV ns i = e := by
  rcases Nat.lt_trichotomy (endV ns i) e with q | q | q
  · have hl : endV ns i < ns.length := by rcases h3 with h | ⟨h, -⟩ <;> omega
    have a := end_at hl
    have b := h2 (endV ns i) (end_gt _ _) q
    omega
  · exact q
  · have a := end_in h1 q
    rcases h3 with h | ⟨-, h⟩ <;> omega
/-- the kids of a node -/
def kidsV (ns : List Node) (i : Nat) : List Nat := (List.range' (i + 1) (endV ns i - (i + 1))).filter fun k => decide (dp ns k = dp ns i + 1)
theorem mem_kids {ns : List Node} {i k : Nat} : k ∈ kidsV ns i ↔ i < k ∧ k < endV ns i ∧ dp ns k = dp ns i + 1 := by
  have := end_gt ns i
  unfold kidsV
  rw [List.mem_filter, List.mem_range'_1, decide_eq_true_eq]
  omega
/-- the kids, from one to the next -/
def jump (ns : List Node) : Nat → Nat → Nat → List Nat
  | 0, _, _ => []
  | f + 1, k, e => if k < e then k :: jump ns f (endV ns k) e else []
theorem jump_kids {ns : List Node} {i e : Nat} (he : e ≤ ns.length) (hin : ∀ k, i < k → k < e → dp ns i < dp ns k) (hend : e = ns.length ∨ dp ns e ≤ dp ns i) : ∀ (f k : Nat), e - k ≤ f → i < k → k ≤ e → (k < e → dp ns k = dp ns i + 1) →
    jump ns f k e = (List.range' k (e - k)).filter fun j => decide (dp ns j = dp ns i + 1) := by
  intro f
  induction f with
  | zero =>
    intro k hf _ _ _
    have : e - k = 0 := by omega
    rw [this]
    rfl
  | succ f ih =>
    intro k hf hk hke h1
    unfold jump
    by_cases h : k < e
    · rw [if_pos h]
      have hdk := h1 h
      have hgt := end_gt ns k
      have hle : endV ns k ≤ e := by
        refine Nat.le_of_not_lt fun q => ?_
        have a := end_in h q
        rcases hend with e2 | e2 <;> omega
      have hnx : endV ns k < e → dp ns (endV ns k) = dp ns i + 1 := fun q => by
        have a := end_at (ns := ns) (i := k) (by omega)
        have b := hin (endV ns k) (by omega) q
        omega
      rw [ih (endV ns k) (by omega) (by omega) hle hnx]
      have e1 : List.range' k (e - k) = k :: (List.range' (k + 1) (endV ns k - (k + 1)) ++ List.range' (endV ns k) (e - endV ns k)) := by
        have e2 : e - k = (e - k - 1) + 1 := by omega
        rw [e2, List.range'_succ]
        congr 1
        have e3 := List.range'_append (s := k + 1) (m := endV ns k - (k + 1)) (n := e - endV ns k) (step := 1)
        rw [Nat.one_mul, show k + 1 + (endV ns k - (k + 1)) = endV ns k by omega, show endV ns k - (k + 1) + (e - endV ns k) = e - k - 1 by omega] at e3
        exact e3.symm
      rw [e1, List.filter_cons, if_pos (by simp [hdk]), List.filter_append]
      have e4 : (List.range' (k + 1) (endV ns k - (k + 1))).filter (fun j => decide (dp ns j = dp ns i + 1)) = [] := by
        rw [List.filter_eq_nil_iff]
        intro j hj
        rw [List.mem_range'_1] at hj
        have := (end_in (ns := ns) (i := k) (k := j) (by omega) (by omega)).2
        simp
        omega
      rw [e4, List.nil_append]
    · rw [if_neg h]
      have : e - k = 0 := by omega
      rw [this]
      rfl
/-- the program's way from kid to kid gives the kids -/
theorem jump_eq {ns : List Node} {i : Nat} (hd : Deep ns) (hi : i < ns.length) {f : Nat} (hf : ns.length ≤ f) : jump ns f (i + 1) (endV ns i) = kidsV ns i := by
  have hle := end_le hi
  have hgt := end_gt ns i
  refine jump_kids hle (fun k h1 h2 => (end_in h1 h2).2) ?_ f (i + 1) (by omega) (by omega) (by omega) fun h => ?_
  · rcases Nat.lt_or_ge (endV ns i) ns.length with q | q
    · exact .inr (end_at q)
    · exact .inl (by omega)
  · have a := (end_in (ns := ns) (i := i) (k := i + 1) (by omega) h).2
    have b := hd.step i (by omega)
    omega
/-- the node above a node -/
def parV (ns : List Node) (i : Nat) : Option Nat := (List.range i).reverse.find? fun k => decide (dp ns k < dp ns i)
theorem par_some {ns : List Node} {i p : Nat} (h : parV ns i = some p) : p < i ∧ dp ns p < dp ns i ∧ ∀ k, p < k → k < i → dp ns i ≤ dp ns k := by
  unfold parV at h
  have h1 := List.find?_some h
  have h2 := List.mem_of_find?_eq_some h
  rw [List.mem_reverse, List.mem_range] at h2
  refine ⟨h2, by simpa using h1, fun k hk hki => ?_⟩
  obtain ⟨xs, ys, e, hno⟩ := (List.find?_eq_some_iff_append.1 h).2
  refine Int.not_lt.1 fun q => ?_
  have hm : k ∈ (List.range i).reverse := by rw [List.mem_reverse, List.mem_range]; exact hki
  have hs : (List.range i).reverse.Pairwise (· > ·) := by
    rw [List.pairwise_reverse]
    exact List.pairwise_lt_range
  rw [e] at hm hs
  rcases List.mem_append.1 hm with hm | hm
  · have := hno k hm
    simp [q] at this
  · rcases List.mem_cons.1 hm with rfl | hm
    · omega
    · have := List.pairwise_append.1 hs
      have := (List.pairwise_cons.1 this.2.1).1 k hm
      omega
/-- a kid's parent, a parent's kid -/
theorem par_kid {ns : List Node} (hd : Deep ns) {i : Nat} (hi : i < ns.length) (h0 : 0 < dp ns i) : ∃ p, parV ns i = some p ∧ p < i ∧ dp ns i = dp ns p + 1 ∧ i ∈ kidsV ns p := by
  have hi0 : 0 < i := by
    refine Nat.pos_of_ne_zero fun e => ?_
    subst e
    rw [hd.first hi] at h0
    omega
  cases hp : parV ns i with
  | none =>
    exfalso
    unfold parV at hp
    rw [List.find?_eq_none] at hp
    have := hp 0 (by rw [List.mem_reverse, List.mem_range]; exact hi0)
    rw [hd.first (by omega)] at this
    simp [h0] at this
  | some p =>
    obtain ⟨h1, h2, h3⟩ := par_some hp
    have hstep : dp ns (p + 1) ≤ dp ns p + 1 := hd.step p (by omega)
    have hge : dp ns i ≤ dp ns (p + 1) := by
      rcases Nat.lt_or_ge (p + 1) i with q | q
      · exact h3 (p + 1) (by omega) q
      · have : i = p + 1 := by omega
        rw [this]
        exact Int.le_refl _
    have hde : dp ns i = dp ns p + 1 := by omega
    refine ⟨p, rfl, h1, hde, mem_kids.2 ⟨h1, ?_, hde⟩⟩
    refine Nat.lt_of_not_le fun q => ?_
    have hl : endV ns p < ns.length := by omega
    have a := end_at hl
    have hg := end_gt ns p
    rcases Nat.lt_or_ge (endV ns p) i with r | r
    · have := h3 _ hg r
      omega
    · have : endV ns p = i := by omega
      rw [this] at a
      omega
def pkV (ns : List Node) (i : Nat) : Int := match parV ns i with
  | some p => kd ns p
  | none => 0
/-- are the kids of a node right: as the program says it -/
def famP (ns : List Node) (i : Nat) : Prop :=
  (kd ns i ≠ 5 → ∀ k ∈ kidsV ns i, kd ns k ≠ 7) ∧
  (kd ns i = 2 → 2 ≤ (kidsV ns i).length ∧ (kidsV ns i).length ≤ 6 ∧ ∀ k ∈ kidsV ns i, kd ns k ≠ 2) ∧
  (kd ns i = 3 → 2 ≤ (kidsV ns i).length ∧ (kidsV ns i).length ≤ 6 ∧ ∀ k ∈ kidsV ns i, kd ns k ≠ 3) ∧
  (kd ns i = 4 → (kidsV ns i).length = 2 ∧ ∀ k ∈ kidsV ns i, kd ns k = 1) ∧
  (kd ns i = 5 → 1 ≤ (kidsV ns i).length ∧ (kidsV ns i).length ≤ 6 ∧ (∀ k ∈ kidsV ns i, kd ns k ≠ 2) ∧ dp ns i = 0 ∧ ((∀ k ∈ kidsV ns i, kd ns k ≠ 7) ∨ (kidsV ns i).length = 1)) ∧
  (kd ns i = 7 → 2 ≤ (kidsV ns i).length ∧ (kidsV ns i).length ≤ 6 ∧ (∀ k ∈ kidsV ns i, kd ns k ≠ 2) ∧ (dp ns i = 0 ∨ pkV ns i = 5))
end Tx
namespace Tx
open Go
instance (ns : List Node) (i : Nat) : Decidable (famP ns i) := by unfold famP; infer_instance
def famB (ns : List Node) (i : Nat) : Bool := decide (famP ns i)
/-- the first error of a text -/
def checkT (l : Sg.SList) (ns : List Node) : Int :=
  if Sg.checkV l ≠ 0 then Sg.checkV l else if 200 < ns.length then 2 else if Sg.firstE (ownAt l ns) ns.length ≠ 0 then Sg.firstE (ownAt l ns) ns.length else if (List.range ns.length).all (famB ns) = true then 0 else 20
theorem fam_all {ns : List Node} : (List.range ns.length).all (famB ns) = true ↔ ∀ i, i < ns.length → famP ns i := by
  rw [List.all_eq_true]
  simp only [List.mem_range, famB, decide_eq_true_eq]
end Tx
