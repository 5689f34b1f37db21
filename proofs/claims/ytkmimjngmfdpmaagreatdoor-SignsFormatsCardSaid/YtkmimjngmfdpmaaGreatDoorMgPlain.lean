/- Plain notions of the lexicon: no program in sight. -/
namespace Lx
/-- letters a..z, A..Z -/
def letter (c : UInt8) : Bool := (97 ≤ c && c ≤ 122) || (65 ≤ c && c ≤ 90)
def small (c : UInt8) : Bool := 97 ≤ c && c ≤ 122
def allL (s : ByteArray) : Bool := s.data.toList.all letter
def allS (s : ByteArray) : Bool := s.data.toList.all small
def soundsB (s : ByteArray) (most : Int) : Bool := decide (1 ≤ s.size) && decide ((s.size : Int) ≤ most) && allL s
def nameB (s : ByteArray) : Bool := decide (1 ≤ s.size) && decide (s.size ≤ 8) && allS s

structure Entry where
  root : ByteArray
  kind : Int
  cls : ByteArray
  weight : Int
structure Ending where
  kind : Int
  text : ByteArray
  name : ByteArray
  weight : Int
structure Clitic where
  text : ByteArray
  name : ByteArray
  weight : Int
structure Lexicon where
  entries : List Entry
  endings : List Ending
  clitics : List Clitic
structure Form where
  entry : Int
  ending : Int
  clitics : List Int

def withinB (n lo hi : Int) : Bool := decide (lo ≤ n) && decide (n ≤ hi)

def Entry.ok (e : Entry) : Bool := soundsB e.root 8 && withinB e.kind 1 9 && (e.cls.toList.isEmpty || nameB e.cls) && withinB e.weight 0 1000
def Entry.same (a b : Entry) : Bool := decide (a.root.toList = b.root.toList) && decide (a.kind = b.kind) && decide (a.cls.toList = b.cls.toList)
def Ending.ok (e : Ending) : Bool := withinB e.kind 1 9 && soundsB e.text 4 && nameB e.name && withinB e.weight 0 1000
def Ending.same (a b : Ending) : Bool := decide (a.kind = b.kind) && decide (a.name.toList = b.name.toList)
def Clitic.ok (e : Clitic) : Bool := soundsB e.text 4 && nameB e.name && withinB e.weight 0 1000
def Clitic.same (a b : Clitic) : Bool := decide (a.name.toList = b.name.toList)

section
variable {α : Type} (ok : α → Bool) (same : α → α → Bool) (xs : List α)
/-- the i-th one is right and like none before it -/
def okAt (i : Nat) : Bool := match xs[i]? with
  | none => true
  | some x => ok x && !((xs.take i).any fun y => same y x)
def good : Bool := (List.range xs.length).all (okAt ok same xs)
variable {ok same xs}
theorem good_of (h : ∀ j, j < xs.length → okAt ok same xs j = true) : good ok same xs = true := by
  simp only [good, List.all_eq_true, List.mem_range]; exact h
theorem not_good_of {j : Nat} (h : okAt ok same xs j = false) : good ok same xs = false := by
  rw [good, List.all_eq_false]
  refine ⟨j, ?_, by simp [h]⟩
  rw [List.mem_range]
  unfold okAt at h
  split at h
  · cases h
  · rename_i x hx
    exact (List.getElem?_eq_some_iff.1 hx).1
theorem okAt_bad {j : Nat} {x : α} (hx : xs[j]? = some x) (h : ok x = false) : okAt ok same xs j = false := by
  simp [okAt, hx, h]
theorem okAt_dup {j k : Nat} {x y : α} (hx : xs[j]? = some x) (hk : k < j) (hy : xs[k]? = some y) (h : same y x = true) : okAt ok same xs j = false := by
  simp only [okAt, hx, Bool.and_eq_false_imp]
  intro _
  simp only [Bool.not_eq_false', List.any_eq_true]
  refine ⟨y, ?_, h⟩
  obtain ⟨hl, rfl⟩ := List.getElem?_eq_some_iff.1 hy
  exact List.mem_take_iff_getElem.2 ⟨k, by omega, rfl⟩
theorem okAt_good {j : Nat} {x : α} (hx : xs[j]? = some x) (h : ok x = true) (hs : ∀ k y, k < j → xs[k]? = some y → same y x = false) : okAt ok same xs j = true := by
  simp only [okAt, hx, h, Bool.true_and, Bool.not_eq_true', List.any_eq_false]
  intro y hy
  obtain ⟨k, hk, rfl⟩ := List.mem_take_iff_getElem.1 hy
  have := hs k (xs[k]'(by omega)) (by omega) (List.getElem?_eq_getElem (by omega))
  simp [this]
theorem to_succ {p : Nat → Prop} {k : Nat} (h : ∀ j, j < k → p j) (hk : p k) : ∀ j, j < k + 1 → p j := by
  intro j hj
  by_cases e : j = k
  · subst e; exact hk
  · exact h j (by omega)
end

def tooMany (x : Lexicon) : Bool := decide (200 < x.entries.length) || decide (40 < x.endings.length) || decide (10 < x.clitics.length)
def checkV (x : Lexicon) : Int :=
  if tooMany x then 2 else if good Entry.ok Entry.same x.entries = false then 45 else if good Ending.ok Ending.same x.endings = false then 46
  else if good Clitic.ok Clitic.same x.clitics = false then 47 else 0

/-- the ending of a form is one, and of the entry's kind -/
def endOK (x : Lexicon) (f : Form) : Bool :=
  decide (f.ending = -1) || (withinB f.ending 0 ((x.endings.length : Int) - 1) && (match x.endings[f.ending.toNat]?, x.entries[f.entry.toNat]? with
    | some g, some e => decide (g.kind = e.kind)
    | _, _ => false))
/-- clitics ascend from 'last' on, each below n -/
def clitOK (n : Int) : Int → List Int → Bool
  | _, [] => true
  | last, c :: r => decide (last < c) && (decide (c < n) && clitOK n c r)
def formV (x : Lexicon) (f : Form) : Int :=
  if checkV x ≠ 0 then checkV x else if withinB f.entry 0 ((x.entries.length : Int) - 1) = false then 45 else if endOK x f = false then 46
  else if 3 < f.clitics.length then 47 else if clitOK x.clitics.length (-1) f.clitics = false then 47 else 0

theorem checkV_45 {x : Lexicon} (h : tooMany x = false) (h1 : good Entry.ok Entry.same x.entries = false) : checkV x = 45 := by simp [checkV, h, h1]
theorem checkV_46 {x : Lexicon} (h : tooMany x = false) (h1 : good Entry.ok Entry.same x.entries = true) (h2 : good Ending.ok Ending.same x.endings = false) : checkV x = 46 := by simp [checkV, h, h1, h2]
theorem checkV_47 {x : Lexicon} (h : tooMany x = false) (h1 : good Entry.ok Entry.same x.entries = true) (h2 : good Ending.ok Ending.same x.endings = true) (h3 : good Clitic.ok Clitic.same x.clitics = false) : checkV x = 47 := by simp [checkV, h, h1, h2, h3]
theorem checkV_0 {x : Lexicon} (h : tooMany x = false) (h1 : good Entry.ok Entry.same x.entries = true) (h2 : good Ending.ok Ending.same x.endings = true) (h3 : good Clitic.ok Clitic.same x.clitics = true) : checkV x = 0 := by simp [checkV, h, h1, h2, h3]
theorem checkV_2 {x : Lexicon} (h : tooMany x = true) : checkV x = 2 := by simp [checkV, h]
theorem formV_45 {x : Lexicon} {f : Form} (h0 : checkV x = 0) (h1 : withinB f.entry 0 ((x.entries.length : Int) - 1) = false) : formV x f = 45 := by simp [formV, h0, h1]
theorem formV_46 {x : Lexicon} {f : Form} (h0 : checkV x = 0) (h1 : withinB f.entry 0 ((x.entries.length : Int) - 1) = true) (h2 : endOK x f = false) : formV x f = 46 := by simp [formV, h0, h1, h2]
theorem formV_47a {x : Lexicon} {f : Form} (h0 : checkV x = 0) (h1 : withinB f.entry 0 ((x.entries.length : Int) - 1) = true) (h2 : endOK x f = true) (h3 : 3 < f.clitics.length) : formV x f = 47 := by simp [formV, h0, h1, h2, h3]
theorem formV_47b {x : Lexicon} {f : Form} (h0 : checkV x = 0) (h1 : withinB f.entry 0 ((x.entries.length : Int) - 1) = true) (h2 : endOK x f = true) (h3 : ¬ 3 < f.clitics.length) (h4 : clitOK x.clitics.length (-1) f.clitics = false) : formV x f = 47 := by simp [formV, h0, h1, h2, h3, h4]
theorem formV_0 {x : Lexicon} {f : Form} (h0 : checkV x = 0) (h1 : withinB f.entry 0 ((x.entries.length : Int) - 1) = true) (h2 : endOK x f = true) (h3 : ¬ 3 < f.clitics.length) (h4 : clitOK x.clitics.length (-1) f.clitics = true) : formV x f = 0 := by simp [formV, h0, h1, h2, h3, h4]
theorem endOK_none {x : Lexicon} {f : Form} (h : f.ending = -1) : endOK x f = true := by simp [endOK, h]
theorem endOK_out {x : Lexicon} {f : Form} (h : ¬ f.ending = -1) (h2 : withinB f.ending 0 ((x.endings.length : Int) - 1) = false) : endOK x f = false := by simp [endOK, h, h2]
theorem endOK_in {x : Lexicon} {f : Form} {g : Ending} {e : Entry} (h : ¬ f.ending = -1) (h2 : withinB f.ending 0 ((x.endings.length : Int) - 1) = true) (hg : x.endings[f.ending.toNat]? = some g) (he : x.entries[f.entry.toNat]? = some e) : endOK x f = decide (g.kind = e.kind) := by
  simp [endOK, h, h2, hg, he]
theorem within_iff {n lo hi : Int} : withinB n lo hi = true ↔ lo ≤ n ∧ n ≤ hi := by simp [withinB]
def bigE (e : Entry) : Bool := decide (100 < e.root.size) || decide (100 < e.cls.size)
def bigN (e : Ending) : Bool := decide (100 < e.text.size) || decide (100 < e.name.size)
def bigC (e : Clitic) : Bool := decide (100 < e.text.size) || decide (100 < e.name.size)
def bigV (x : Lexicon) : Bool := decide (210 < x.entries.length) || decide (50 < x.endings.length) || decide (15 < x.clitics.length) || x.entries.any bigE || x.endings.any bigN || x.clitics.any bigC
end Lx
