/- The weight of a form: plain notions. Least and CompareForms: plain notions. -/
import Derived.Test.YtpmnpnlfgfleeaaDoorMgMatchesPlain
namespace Lx
def weighC (x : Lexicon) (c : Int) : Int := match x.clitics[c.toNat]? with
  | some g => g.weight
  | none => 0
def weighCs (x : Lexicon) : List Int → Int
  | [] => 0
  | c :: r => weighC x c + weighCs x r
def weighE (x : Lexicon) (f : Form) (n : Int) : Int := if f.ending < 0 then n else match x.endings[f.ending.toNat]? with
  | some g => n + g.weight
  | none => n
def heavyV (x : Lexicon) (f : Form) : Int := match x.entries[f.entry.toNat]? with
  | some e => weighE x f e.weight + weighCs x f.clitics
  | none => 0
/-- entry, ending and clitics of a form are there -/
structure FitsC (x : Lexicon) (f : Form) : Prop extends Fits x f where
  few : f.clitics.length ≤ 3
  cl : ∀ (k : Nat) (c : Int), f.clitics[k]? = some c → 0 ≤ c ∧ c < x.clitics.length
theorem Valid.fitsC {x : Lexicon} {f : Form} (h : Valid x f) : FitsC x f := { toFits := h.fits, few := h.few, cl := h.cl }
theorem weighE_le {x : Lexicon} {f : Form} {n : Int} (hg : good Ending.ok Ending.same x.endings = true) : n ≤ weighE x f n ∧ weighE x f n ≤ n + 1000 := by
  unfold weighE
  split
  · omega
  · split
    · rename_i g h
      have := ok_ending (good_at hg h)
      omega
    · omega
theorem weighCs_le {x : Lexicon} (hg : good Clitic.ok Clitic.same x.clitics = true) : ∀ (l : List Int), 0 ≤ weighCs x l ∧ weighCs x l ≤ 1000 * l.length
  | [] => by simp [weighCs]
  | c :: r => by
    have h := weighCs_le hg r
    have h1 : 0 ≤ weighC x c ∧ weighC x c ≤ 1000 := by
      unfold weighC
      split
      · rename_i g h
        have := ok_clitic (good_at hg h)
        omega
      · omega
    simp only [weighCs, List.length_cons]
    omega
theorem heavyV_le {x : Lexicon} {f : Form} (h : checkV x = 0) (hf : f.clitics.length ≤ 3) : 0 ≤ heavyV x f ∧ heavyV x f ≤ 5000 := by
  obtain ⟨_, h1, h2, h3⟩ := check_parts h
  unfold heavyV
  split
  · rename_i e he
    have a := ok_entry (good_at h1 he)
    have b := weighE_le (f := f) (n := e.weight) h2
    have c := weighCs_le h3 f.clitics
    omega
  · omega
end Lx
namespace Lx
/-- the first of the lightest -/
def lighter (x : Lexicon) (b f : Form) : Form := if heavyV x f < heavyV x b then f else b
def leastL (x : Lexicon) (b : Form) (l : List Form) : Form := l.foldl (lighter x) b
theorem leastL_succ {x : Lexicon} {b f : Form} {l : List Form} {k : Nat} (h : l[k]? = some f) : leastL x b (l.take (k + 1)) = lighter x (leastL x b (l.take k)) f := by
  obtain ⟨hb, rfl⟩ := List.getElem?_eq_some_iff.1 h
  unfold leastL
  rw [List.take_succ_eq_append_getElem hb, List.foldl_append]
  rfl
theorem leastL_self {x : Lexicon} {b : Form} {l : List Form} : leastL x b (b :: l) = leastL x b l := by
  unfold leastL
  rw [List.foldl_cons]
  congr 1
  unfold lighter
  simp
theorem leastL_mem {x : Lexicon} : ∀ (l : List Form) (b : Form), leastL x b l = b ∨ leastL x b l ∈ l
  | [], b => .inl rfl
  | f :: r, b => by
    show leastL x (lighter x b f) r = b ∨ leastL x (lighter x b f) r ∈ f :: r
    rcases leastL_mem r (lighter x b f) with h | h
    · rw [h]
      unfold lighter
      split
      · exact .inr (by simp)
      · exact .inl rfl
    · exact .inr (by simp [h])
/-- the order of forms, asq a number -/
def cmpL : List Int → List Int → Int
  | a :: asq, b :: bs => if a = b then cmpL asq bs else a - b
  | asq, bs => (asq.length : Int) - bs.length
def cmpF (a b : Form) : Int := if a.entry = b.entry then (if a.ending = b.ending then cmpL a.clitics b.clitics else a.ending - b.ending) else a.entry - b.entry
theorem cmpL_drop {asq bs : List Int} {i : Nat} {a b : Int} (ha : asq[i]? = some a) (hb : bs[i]? = some b) : cmpL (asq.drop i) (bs.drop i) = if a = b then cmpL (asq.drop (i + 1)) (bs.drop (i + 1)) else a - b := by
  obtain ⟨h1, rfl⟩ := List.getElem?_eq_some_iff.1 ha
  obtain ⟨h2, rfl⟩ := List.getElem?_eq_some_iff.1 hb
  rw [List.drop_eq_getElem_cons h1, List.drop_eq_getElem_cons h2, cmpL]
theorem cmpL_end {asq bs : List Int} {i : Nat} (hi : i ≤ asq.length) (hi2 : i ≤ bs.length) (h : asq.length ≤ i ∨ bs.length ≤ i) : cmpL (asq.drop i) (bs.drop i) = (asq.length : Int) - bs.length := by
  rcases h with h | h
  · rw [List.drop_eq_nil_of_le h]
    cases hb : bs.drop i with
    | nil =>
      have := congrArg List.length hb
      rw [List.length_drop, List.length_nil] at this
      simp [cmpL]; omega
    | cons b r =>
      have := congrArg List.length hb
      rw [List.length_drop, List.length_cons] at this
      simp [cmpL]; omega
  · rw [List.drop_eq_nil_of_le h]
    cases hb : asq.drop i with
    | nil =>
      have := congrArg List.length hb
      rw [List.length_drop, List.length_nil] at this
      simp [cmpL]; omega
    | cons b r =>
      have := congrArg List.length hb
      rw [List.length_drop, List.length_cons] at this
      simp [cmpL]; omega
theorem cmpL_zero : ∀ {asq bs : List Int}, cmpL asq bs = 0 ↔ asq = bs
  | [], [] => by simp [cmpL]
  | [], b :: bs => by simp [cmpL]; omega
  | a :: asq, [] => by simp [cmpL]; omega
  | a :: asq, b :: bs => by
    rw [cmpL]
    split
    · rename_i h
      rw [cmpL_zero]
      simp [h]
    · rename_i h
      simp [h]
      omega
theorem cmpF_zero {a b : Form} : cmpF a b = 0 ↔ a = b := by
  obtain ⟨a1, a2, a3⟩ := a
  obtain ⟨b1, b2, b3⟩ := b
  unfold cmpF
  simp only [Form.mk.injEq]
  split
  · rename_i h
    split
    · rename_i h2
      rw [cmpL_zero]
      simp [h, h2]
    · rename_i h2
      simp [h, h2]
      omega
  · rename_i h
    simp [h]
    omega
instance : DecidableEq Form := fun a b => decidable_of_iff (cmpF a b = 0) cmpF_zero
end Lx
