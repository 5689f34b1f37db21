/- Least and CompareForms: plain notions. -/
import Derived.Test.YtpmfjndbckblfaaDoorWeightPlain
namespace Lx
/-- the first of the lightest -/
def lighter (x : Lexicon) (b f : Form) : Form := if heavyV x f < heavyV x b then f else b
def leastL (x : Lexicon) (b : Form) (l : List Form) : Form := l.foldl (lighter x) b
theorem leastL_succ {x : Lexicon} {b f : Form} {l : List Form} {k : Nat} (h : l[k]? = some f) : leastL x b (l.take (k + 1)) = lighter x (leastL x b (l.take k)) f := by
  obtain ⟨hb, rfl⟩ := List.getElem?_eq_some_iff.1 h
  unfold leastL
  rw [List.take_succ_eq_append_getElem hb, List.foldl_append]
  rfl
theorem leastL_self {x : Lexicon} {b : Form} {l : List Form} : leastL x b (b :: l) = leastL x b l := by
  unfold leastL
  rw [List.foldl_cons]
  congr 1
  unfold lighter
  simp
theorem leastL_mem {x : Lexicon} : ∀ (l : List Form) (b : Form), leastL x b l = b ∨ leastL x b l ∈ l
  | [], b => .inl rfl
  | f :: r, b => by
    show leastL x (lighter x b f) r = b ∨ leastL x (lighter x b f) r ∈ f :: r
    rcases leastL_mem r (lighter x b f) with h | h
    · rw [h]
      unfold lighter
      split
      · exact .inr (by simp)
      · exact .inl rfl
    · exact .inr (by simp [h])
/-- the order of forms, as a number -/
def cmpL : List Int → List Int → Int
  | a :: as, b :: bs => if a = b then cmpL as bs else a - b
  | as, bs => (as.length : Int) - bs.length
def cmpF (a b : Form) : Int := if a.entry = b.entry then (if a.ending = b.ending then cmpL a.clitics b.clitics else a.ending - b.ending) else a.entry - b.entry
theorem cmpL_drop {as bs : List Int} {i : Nat} {a b : Int} (ha : as[i]? = some a) (hb : bs[i]? = some b) : cmpL (as.drop i) (bs.drop i) = if a = b then cmpL (as.drop (i + 1)) (bs.drop (i + 1)) else a - b := by
  obtain ⟨h1, rfl⟩ := List.getElem?_eq_some_iff.1 ha
  obtain ⟨h2, rfl⟩ := List.getElem?_eq_some_iff.1 hb
  rw [List.drop_eq_getElem_cons h1, List.drop_eq_getElem_cons h2, cmpL]
theorem cmpL_end {as bs : List Int} {i : Nat} (hi : i ≤ as.length) (hi2 : i ≤ bs.length) (h : as.length ≤ i ∨ bs.length ≤ i) : cmpL (as.drop i) (bs.drop i) = (as.length : Int) - bs.length := by
  rcases h with h | h
  · rw [List.drop_eq_nil_of_le h]
    cases hb : bs.drop i with
    | nil =>
      have := congrArg List.length hb
      rw [List.length_drop, List.length_nil] at this
      simp [cmpL]; omega
    | cons b r =>
      have := congrArg List.length hb
      rw [List.length_drop, List.length_cons] at this
      simp [cmpL]; omega
  · rw [List.drop_eq_nil_of_le h]
    cases hb : as.drop i with
    | nil =>
      have := congrArg List.length hb
      rw [List.length_drop, List.length_nil] at this
      simp [cmpL]; omega
    | cons b r =>
      have := congrArg List.length hb
      rw [List.length_drop, List.length_cons] at this
      simp [cmpL]; omega
theorem cmpL_zero : ∀ {as bs : List Int}, cmpL as bs = 0 ↔ as = bs
  | [], [] => by simp [cmpL]
  | [], b :: bs => by simp [cmpL]; omega
  | a :: as, [] => by simp [cmpL]; omega
  | a :: as, b :: bs => by
    rw [cmpL]
    split
    · rename_i h
      rw [cmpL_zero]
      simp [h]
    · rename_i h
      simp [h]
      omega
theorem cmpF_zero {a b : Form} : cmpF a b = 0 ↔ a = b := by
  obtain ⟨a1, a2, a3⟩ := a
  obtain ⟨b1, b2, b3⟩ := b
  unfold cmpF
  simp only [Form.mk.injEq]
  split
  · rename_i h
    split
    · rename_i h2
      rw [cmpL_zero]
      simp [h, h2]
    · rename_i h2
      simp [h, h2]
      omega
  · rename_i h
    simp [h]
    omega
instance : DecidableEq Form := fun a b => decidable_of_iff (cmpF a b = 0) cmpF_zero
end Lx
