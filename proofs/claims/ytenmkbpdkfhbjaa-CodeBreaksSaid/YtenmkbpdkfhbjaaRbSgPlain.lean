/- Plain notions of the lexicon: no program in sight.; Sign lists: plain notions, no program in sight. -/
namespace Lx
/-- letters a..z, A..Z -/
def letter (c : UInt8) : Bool := (97 ≤ c && c ≤ 122) || (65 ≤ c && c ≤ 90)
def small (c : UInt8) : Bool := 97 ≤ c && c ≤ 122
def allL (s : ByteArray) : Bool := s.data.toList.all letter
def allS (s : ByteArray) : Bool := s.data.toList.all small
def soundsB (s : ByteArray) (most : Int) : Bool := decide (1 ≤ s.size) && decide ((s.size : Int) ≤ most) && allL s
def nameB (s : ByteArray) : Bool := decide (1 ≤ s.size) && decide (s.size ≤ 8) && allS s

structure Entry where
  root : ByteArray
  kind : Int
  cls : ByteArray
  weight : Int
structure Ending where
  kind : Int
  text : ByteArray
  name : ByteArray
  weight : Int
structure Clitic where
  text : ByteArray
  name : ByteArray
  weight : Int
structure Lexicon where
  entries : List Entry
  endings : List Ending
  clitics : List Clitic
structure Form where
  entry : Int
  ending : Int
  clitics : List Int

def withinB (n lo hi : Int) : Bool := decide (lo ≤ n) && decide (n ≤ hi)

def Entry.ok (e : Entry) : Bool := soundsB e.root 8 && withinB e.kind 1 9 && (e.cls.toList.isEmpty || nameB e.cls) && withinB e.weight 0 1000
def Entry.same (a b : Entry) : Bool := decide (a.root.toList = b.root.toList) && decide (a.kind = b.kind) && decide (a.cls.toList = b.cls.toList)
def Ending.ok (e : Ending) : Bool := withinB e.kind 1 9 && soundsB e.text 4 && nameB e.name && withinB e.weight 0 1000
def Ending.same (a b : Ending) : Bool := decide (a.kind = b.kind) && decide (a.name.toList = b.name.toList)
def Clitic.ok (e : Clitic) : Bool := soundsB e.text 4 && nameB e.name && withinB e.weight 0 1000
def Clitic.same (a b : Clitic) : Bool := decide (a.name.toList = b.name.toList)

section
variable {α : Type} (ok : α → Bool) (same : α → α → Bool) (xs : List α)
/-- the i-th one is right and like none before it -/
def okAt (i : Nat) : Bool := match xs[i]? with
  | none => true
  | some x => ok x && !((xs.take i).any fun y => same y x)
def good : Bool := (List.range xs.length).all (okAt ok same xs)
variable {ok same xs}
end

def tooMany (x : Lexicon) : Bool := decide (200 < x.entries.length) || decide (40 < x.endings.length) || decide (10 < x.clitics.length)
def checkV (x : Lexicon) : Int :=
  if tooMany x then 2 else if good Entry.ok Entry.same x.entries = false then 45 else if good Ending.ok Ending.same x.endings = false then 46
  else if good Clitic.ok Clitic.same x.clitics = false then 47 else 0

/-- the ending of a form is one, and of the entry's kind -/
def endOK (x : Lexicon) (f : Form) : Bool :=
  decide (f.ending = -1) || (withinB f.ending 0 ((x.endings.length : Int) - 1) && (match x.endings[f.ending.toNat]?, x.entries[f.entry.toNat]? with
    | some g, some e => decide (g.kind = e.kind)
    | _, _ => false))
/-- clitics ascend from 'last' on, each below n -/
def clitOK (n : Int) : Int → List Int → Bool
  | _, [] => true
  | last, c :: r => decide (last < c) && (decide (c < n) && clitOK n c r)
def formV (x : Lexicon) (f : Form) : Int :=
  if checkV x ≠ 0 then checkV x else if withinB f.entry 0 ((x.entries.length : Int) - 1) = false then 45 else if endOK x f = false then 46
  else if 3 < f.clitics.length then 47 else if clitOK x.clitics.length (-1) f.clitics = false then 47 else 0

theorem within_iff {n lo hi : Int} : withinB n lo hi = true ↔ lo ≤ n ∧ n ≤ hi := by simp [withinB]
def bigE (e : Entry) : Bool := decide (100 < e.root.size) || decide (100 < e.cls.size)
def bigN (e : Ending) : Bool := decide (100 < e.text.size) || decide (100 < e.name.size)
def bigC (e : Clitic) : Bool := decide (100 < e.text.size) || decide (100 < e.name.size)
def bigV (x : Lexicon) : Bool := decide (210 < x.entries.length) || decide (50 < x.endings.length) || decide (15 < x.clitics.length) || x.entries.any bigE || x.endings.any bigN || x.clitics.any bigC
end Lx
namespace Sg
structure Value where
  kind : Int
  text : ByteArray
  lo : Int
  hi : Int
structure Sign where
  code : ByteArray
  wide : Int
  high : Int
  even : Bool
  values : List Value
structure SList where
  periods : Int
  signs : List Sign

def upper (c : UInt8) : Bool := 65 ≤ c && c ≤ 90
def digit (c : UInt8) : Bool := 48 ≤ c && c ≤ 57
def alnum (c : UInt8) : Bool := Lx.letter c || digit c
def codeB (s : ByteArray) : Bool := decide (1 ≤ s.size) && decide (s.size ≤ 8) && (match s.data.toList[0]? with | some c => upper c | none => false) && s.data.toList.all alnum
def textC (kind : Int) (c : UInt8) : Bool := Lx.small c || (!decide (kind = 3) && upper c)
def textB (kind : Int) (s : ByteArray) : Bool := decide (1 ≤ s.size) && decide (s.size ≤ 8) && s.data.toList.all (textC kind)
def meetB (a b : Value) : Bool := decide (a.kind = b.kind) && decide (a.text = b.text) && decide (a.lo ≤ b.hi) && decide (b.lo ≤ a.hi)
/-- the error of a value behind others -/
def valueV (periods : Int) (before : List Value) (v : Value) : Int :=
  if v.kind < 1 ∨ 3 < v.kind ∨ textB v.kind v.text = false then 12 else if v.lo < 1 ∨ v.hi < v.lo ∨ periods < v.hi then 13 else if before.any (meetB v) then 12 else 0
/-- the first that is no nought, of n -/
def firstE (f : Nat → Int) (n : Nat) : Int := match (List.range n).find? (fun j => !decide (f j = 0)) with
  | some j => f j
  | none => 0
theorem firstE_zero {f : Nat → Int} {n : Nat} (h : ∀ j, j < n → f j = 0) : firstE f n = 0 := by
  unfold firstE
  have : (List.range n).find? (fun j => !decide (f j = 0)) = none := by
    rw [List.find?_eq_none]
    intro j hj
    rw [List.mem_range] at hj
    simp [h j hj]
  rw [this]
theorem firstE_at {f : Nat → Int} {n k : Nat} (hk : k < n) (h : ∀ j, j < k → f j = 0) (h0 : f k ≠ 0) : firstE f n = f k := by
  unfold firstE
  have : (List.range n).find? (fun j => !decide (f j = 0)) = some k := by
    obtain ⟨m, rfl⟩ : ∃ m, n = k + (m + 1) := ⟨n - k - 1, by omega⟩
    rw [List.range_add, List.find?_append]
    have e1 : (List.range k).find? (fun j => !decide (f j = 0)) = none := by
      rw [List.find?_eq_none]
      intro j hj
      rw [List.mem_range] at hj
      simp [h j hj]
    rw [e1, List.range_succ_eq_map]
    simp [h0]
  rw [this]
theorem firstE_ne {f : Nat → Int} {n : Nat} (h : firstE f n = 0) : ∀ j, j < n → f j = 0 := by
  intro j hj
  refine Decidable.byContradiction fun h0 => ?_
  have : ∀ m, m ≤ j → (∀ i, i < m → f i = 0) ∨ ∃ k, k < m ∧ (∀ i, i < k → f i = 0) ∧ f k ≠ 0 := by
    intro m
    induction m with
    | zero => intro _; left; intro i hi; omega
    | succ m ih =>
      intro hm
      rcases ih (by omega) with h1 | ⟨k, hk, h1, h2⟩
      · by_cases q : f m = 0
        · left
          intro i hi
          by_cases e : i = m
          · rw [e]; exact q
          · exact h1 i (by omega)
        · exact .inr ⟨m, by omega, h1, q⟩
      · exact .inr ⟨k, by omega, h1, h2⟩
  rcases this j (Nat.le_refl _) with h1 | ⟨k, hk, h1, h2⟩
  · rw [firstE_at hj h1 h0] at h; exact h0 h
  · rw [firstE_at (by omega) h1 h2] at h; exact h2 h
def valueAt (periods : Int) (l : List Value) (k : Nat) : Int := match l[k]? with
  | some v => valueV periods (l.take k) v
  | none => 0
def valuesV (periods : Int) (l : List Value) : Int := firstE (valueAt periods l) l.length
def sizeBad (s : Sign) : Prop := s.wide < 1 ∨ 12 < s.wide ∨ s.high < 1 ∨ 12 < s.high
instance (s : Sign) : Decidable (sizeBad s) := by unfold sizeBad; infer_instance
/-- the error of a sign, but for its code -/
def bodyV (periods : Int) (s : Sign) : Int := if sizeBad s then 11 else if 12 < s.values.length then 2 else valuesV periods s.values
def signV (periods : Int) (before : List Sign) (s : Sign) : Int := if codeB s.code = false ∨ before.any (fun t => decide (t.code = s.code)) = true then 10 else bodyV periods s
def signAt (l : SList) (k : Nat) : Int := match l.signs[k]? with
  | some s => signV l.periods (l.signs.take k) s
  | none => 0
def checkV (l : SList) : Int := if 200 < l.signs.length then 2 else if l.periods < 1 ∨ 9 < l.periods then 13 else firstE (signAt l) l.signs.length

end Sg
