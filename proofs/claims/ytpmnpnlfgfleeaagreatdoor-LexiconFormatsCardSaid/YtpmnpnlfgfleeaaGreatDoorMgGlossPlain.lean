/- Plain notions of the lexicon: no program in sight. Glosses: plain notions. -/
import Derived.Lib.Strings
import Derived.Lib.ItoaNum
namespace Lx
/-- letters a..z, A..Z -/
def letter (c : UInt8) : Bool := (97 ≤ c && c ≤ 122) || (65 ≤ c && c ≤ 90)
def small (c : UInt8) : Bool := 97 ≤ c && c ≤ 122
def allL (s : ByteArray) : Bool := s.data.toList.all letter
def allS (s : ByteArray) : Bool := s.data.toList.all small
def soundsB (s : ByteArray) (most : Int) : Bool := decide (1 ≤ s.size) && decide ((s.size : Int) ≤ most) && allL s
def nameB (s : ByteArray) : Bool := decide (1 ≤ s.size) && decide (s.size ≤ 8) && allS s

structure Entry where
  root : ByteArray
  kind : Int
  cls : ByteArray
  weight : Int
structure Ending where
  kind : Int
  text : ByteArray
  name : ByteArray
  weight : Int
structure Clitic where
  text : ByteArray
  name : ByteArray
  weight : Int
structure Lexicon where
  entries : List Entry
  endings : List Ending
  clitics : List Clitic
structure Form where
  entry : Int
  ending : Int
  clitics : List Int

def withinB (n lo hi : Int) : Bool := decide (lo ≤ n) && decide (n ≤ hi)

def Entry.ok (e : Entry) : Bool := soundsB e.root 8 && withinB e.kind 1 9 && (e.cls.toList.isEmpty || nameB e.cls) && withinB e.weight 0 1000
def Entry.same (a b : Entry) : Bool := decide (a.root.toList = b.root.toList) && decide (a.kind = b.kind) && decide (a.cls.toList = b.cls.toList)
def Ending.ok (e : Ending) : Bool := withinB e.kind 1 9 && soundsB e.text 4 && nameB e.name && withinB e.weight 0 1000
def Ending.same (a b : Ending) : Bool := decide (a.kind = b.kind) && decide (a.name.toList = b.name.toList)
def Clitic.ok (e : Clitic) : Bool := soundsB e.text 4 && nameB e.name && withinB e.weight 0 1000
def Clitic.same (a b : Clitic) : Bool := decide (a.name.toList = b.name.toList)

section
variable {α : Type} (ok : α → Bool) (same : α → α → Bool) (xs : List α)
/-- the i-th one is right and like none before it -/
def okAt (i : Nat) : Bool := match xs[i]? with
  | none => true
  | some x => ok x && !((xs.take i).any fun y => same y x)
def good : Bool := (List.range xs.length).all (okAt ok same xs)
variable {ok same xs}
theorem good_of (h : ∀ j, j < xs.length → okAt ok same xs j = true) : good ok same xs = true := by
  simp only [good, List.all_eq_true, List.mem_range]; exact h
theorem not_good_of {j : Nat} (h : okAt ok same xs j = false) : good ok same xs = false := by
  rw [good, List.all_eq_false]
  refine ⟨j, ?_, by simp [h]⟩
  rw [List.mem_range]
  unfold okAt at h
  split at h
  · cases h
  · rename_i x hx
    exact (List.getElem?_eq_some_iff.1 hx).1
theorem okAt_bad {j : Nat} {x : α} (hx : xs[j]? = some x) (h : ok x = false) : okAt ok same xs j = false := by
  simp [okAt, hx, h]
theorem okAt_dup {j k : Nat} {x y : α} (hx : xs[j]? = some x) (hk : k < j) (hy : xs[k]? = some y) (h : same y x = true) : okAt ok same xs j = false := by
  simp only [okAt, hx, Bool.and_eq_false_imp]
  intro _
  simp only [Bool.not_eq_false', List.any_eq_true]
  refine ⟨y, ?_, h⟩
  obtain ⟨hl, rfl⟩ := List.getElem?_eq_some_iff.1 hy
  exact List.mem_take_iff_getElem.2 ⟨k, by omega, rfl⟩
theorem okAt_good {j : Nat} {x : α} (hx : xs[j]? = some x) (h : ok x = true) (hs : ∀ k y, k < j → xs[k]? = some y → same y x = false) : okAt ok same xs j = true := by
  simp only [okAt, hx, h, Bool.true_and, Bool.not_eq_true', List.any_eq_false]
  intro y hy
  obtain ⟨k, hk, rfl⟩ := List.mem_take_iff_getElem.1 hy
  have := hs k (xs[k]'(by omega)) (by omega) (List.getElem?_eq_getElem (by omega))
  simp [this]
theorem to_succ {p : Nat → Prop} {k : Nat} (h : ∀ j, j < k → p j) (hk : p k) : ∀ j, j < k + 1 → p j := by
  intro j hj
  by_cases e : j = k
  · subst e; exact hk
  · exact h j (by omega)
end

def tooMany (x : Lexicon) : Bool := decide (200 < x.entries.length) || decide (40 < x.endings.length) || decide (10 < x.clitics.length)
def checkV (x : Lexicon) : Int :=
  if tooMany x then 2 else if good Entry.ok Entry.same x.entries = false then 45 else if good Ending.ok Ending.same x.endings = false then 46
  else if good Clitic.ok Clitic.same x.clitics = false then 47 else 0

/-- the ending of a form is one, and of the entry's kind -/
def endOK (x : Lexicon) (f : Form) : Bool :=
  decide (f.ending = -1) || (withinB f.ending 0 ((x.endings.length : Int) - 1) && (match x.endings[f.ending.toNat]?, x.entries[f.entry.toNat]? with
    | some g, some e => decide (g.kind = e.kind)
    | _, _ => false))
/-- clitics ascend from 'last' on, each below n -/
def clitOK (n : Int) : Int → List Int → Bool
  | _, [] => true
  | last, c :: r => decide (last < c) && (decide (c < n) && clitOK n c r)
def formV (x : Lexicon) (f : Form) : Int :=
  if checkV x ≠ 0 then checkV x else if withinB f.entry 0 ((x.entries.length : Int) - 1) = false then 45 else if endOK x f = false then 46
  else if 3 < f.clitics.length then 47 else if clitOK x.clitics.length (-1) f.clitics = false then 47 else 0

theorem checkV_45 {x : Lexicon} (h : tooMany x = false) (h1 : good Entry.ok Entry.same x.entries = false) : checkV x = 45 := by simp [checkV, h, h1]
theorem checkV_46 {x : Lexicon} (h : tooMany x = false) (h1 : good Entry.ok Entry.same x.entries = true) (h2 : good Ending.ok Ending.same x.endings = false) : checkV x = 46 := by simp [checkV, h, h1, h2]
theorem checkV_47 {x : Lexicon} (h : tooMany x = false) (h1 : good Entry.ok Entry.same x.entries = true) (h2 : good Ending.ok Ending.same x.endings = true) (h3 : good Clitic.ok Clitic.same x.clitics = false) : checkV x = 47 := by simp [checkV, h, h1, h2, h3]
theorem checkV_0 {x : Lexicon} (h : tooMany x = false) (h1 : good Entry.ok Entry.same x.entries = true) (h2 : good Ending.ok Ending.same x.endings = true) (h3 : good Clitic.ok Clitic.same x.clitics = true) : checkV x = 0 := by simp [checkV, h, h1, h2, h3]
theorem checkV_2 {x : Lexicon} (h : tooMany x = true) : checkV x = 2 := by simp [checkV, h]
theorem formV_45 {x : Lexicon} {f : Form} (h0 : checkV x = 0) (h1 : withinB f.entry 0 ((x.entries.length : Int) - 1) = false) : formV x f = 45 := by simp [formV, h0, h1]
theorem formV_46 {x : Lexicon} {f : Form} (h0 : checkV x = 0) (h1 : withinB f.entry 0 ((x.entries.length : Int) - 1) = true) (h2 : endOK x f = false) : formV x f = 46 := by simp [formV, h0, h1, h2]
theorem formV_47a {x : Lexicon} {f : Form} (h0 : checkV x = 0) (h1 : withinB f.entry 0 ((x.entries.length : Int) - 1) = true) (h2 : endOK x f = true) (h3 : 3 < f.clitics.length) : formV x f = 47 := by simp [formV, h0, h1, h2, h3]
theorem formV_47b {x : Lexicon} {f : Form} (h0 : checkV x = 0) (h1 : withinB f.entry 0 ((x.entries.length : Int) - 1) = true) (h2 : endOK x f = true) (h3 : ¬ 3 < f.clitics.length) (h4 : clitOK x.clitics.length (-1) f.clitics = false) : formV x f = 47 := by simp [formV, h0, h1, h2, h3, h4]
theorem formV_0 {x : Lexicon} {f : Form} (h0 : checkV x = 0) (h1 : withinB f.entry 0 ((x.entries.length : Int) - 1) = true) (h2 : endOK x f = true) (h3 : ¬ 3 < f.clitics.length) (h4 : clitOK x.clitics.length (-1) f.clitics = true) : formV x f = 0 := by simp [formV, h0, h1, h2, h3, h4]
theorem endOK_none {x : Lexicon} {f : Form} (h : f.ending = -1) : endOK x f = true := by simp [endOK, h]
theorem endOK_out {x : Lexicon} {f : Form} (h : ¬ f.ending = -1) (h2 : withinB f.ending 0 ((x.endings.length : Int) - 1) = false) : endOK x f = false := by simp [endOK, h, h2]
theorem endOK_in {x : Lexicon} {f : Form} {g : Ending} {e : Entry} (h : ¬ f.ending = -1) (h2 : withinB f.ending 0 ((x.endings.length : Int) - 1) = true) (hg : x.endings[f.ending.toNat]? = some g) (he : x.entries[f.entry.toNat]? = some e) : endOK x f = decide (g.kind = e.kind) := by
  simp [endOK, h, h2, hg, he]
theorem within_iff {n lo hi : Int} : withinB n lo hi = true ↔ lo ≤ n ∧ n ≤ hi := by simp [withinB]
def bigE (e : Entry) : Bool := decide (100 < e.root.size) || decide (100 < e.cls.size)
def bigN (e : Ending) : Bool := decide (100 < e.text.size) || decide (100 < e.name.size)
def bigC (e : Clitic) : Bool := decide (100 < e.text.size) || decide (100 < e.name.size)
def bigV (x : Lexicon) : Bool := decide (210 < x.entries.length) || decide (50 < x.endings.length) || decide (15 < x.clitics.length) || x.entries.any bigE || x.endings.any bigN || x.clitics.any bigC
end Lx
namespace Lx
theorem eq_true_of_not_false {b : Bool} (h : ¬ b = false) : b = true := by simpa using h
def glossClit (x : Lexicon) : List Int → ByteArray → ByteArray
  | [], t => t
  | c :: r, t => glossClit x r (match x.clitics[c.toNat]? with
    | some g => t ++ (⟨#[61]⟩ ++ g.name)
    | none => t)
def glossHead (e : Entry) : ByteArray :=
  let t := e.root ++ ⟨#[47]⟩ ++ ⟨(Go.Lib.decDigits e.kind.toNat).toArray⟩
  if e.cls.toList.isEmpty then t else t ++ (⟨#[47]⟩ ++ e.cls)
def glossEnd (x : Lexicon) (f : Form) (t : ByteArray) : ByteArray :=
  if f.ending < 0 then t else match x.endings[f.ending.toNat]? with
  | some g => t ++ (⟨#[45]⟩ ++ g.name)
  | none => t
def glossV (x : Lexicon) (f : Form) : ByteArray :=
  match x.entries[f.entry.toNat]? with
  | none => ⟨#[]⟩
  | some e => glossClit x f.clitics (glossEnd x f (glossHead e))

def glossR (x : Lexicon) (f : Form) : ByteArray := if formV x f = 0 then glossV x f else ⟨#[]⟩
theorem glossR_ok {x : Lexicon} {f : Form} (h : formV x f = 0) : glossR x f = glossV x f := if_pos h
theorem glossR_no {x : Lexicon} {f : Form} (h : ¬ formV x f = 0) : glossR x f = ⟨#[]⟩ := if_neg h

theorem clit_at {n : Int} : ∀ (l : List Int) (last : Int) (_ : clitOK n last l = true) (k : Nat) (c : Int), l[k]? = some c → last < c ∧ c < n := by
  intro l
  induction l with
  | nil => intro last _ k c h; simp at h
  | cons a r ih =>
    intro last hok k c h
    simp [clitOK] at hok
    cases k with
    | zero => simp at h; subst h; exact ⟨hok.1, hok.2.1⟩
    | succ k =>
      simp at h
      have := ih a hok.2.2 k c h
      omega

/-- What a valid form is. -/
structure Valid (x : Lexicon) (f : Form) : Prop where
  chk : checkV x = 0
  ent : 0 ≤ f.entry ∧ f.entry < x.entries.length
  fin : f.ending = -1 ∨ (0 ≤ f.ending ∧ f.ending < x.endings.length)
  few : f.clitics.length ≤ 3
  cl : ∀ (k : Nat) (c : Int), f.clitics[k]? = some c → 0 ≤ c ∧ c < x.clitics.length
theorem valid_of {x : Lexicon} {f : Form} (h : formV x f = 0) : Valid x f := by
  unfold formV at h
  split at h
  · contradiction
  · rename_i h0
    split at h
    · cases h
    · rename_i h1
      split at h
      · cases h
      · rename_i h2
        split at h
        · cases h
        · rename_i h3
          split at h
          · cases h
          · rename_i h4
            have h1' := within_iff.1 (eq_true_of_not_false h1)
            refine ⟨Classical.not_not.1 h0, ⟨h1'.1, by omega⟩, ?_, by omega, fun k c hk => ?_⟩
            · have h2' := eq_true_of_not_false h2
              simp only [endOK, Bool.or_eq_true, decide_eq_true_eq, Bool.and_eq_true] at h2'
              rcases h2' with h2' | ⟨h2', _⟩
              · exact .inl h2'
              · have := within_iff.1 h2'
                exact .inr ⟨this.1, by omega⟩
            · have := clit_at f.clitics (-1) (eq_true_of_not_false h4) k c hk
              omega
theorem good_at {α : Type} {ok : α → Bool} {same : α → α → Bool} {xs : List α} (h : good ok same xs = true) {k : Nat} {e : α} (hk : xs[k]? = some e) : ok e = true := by
  have := List.all_eq_true.1 h k (List.mem_range.2 (List.getElem?_eq_some_iff.1 hk).1)
  unfold okAt at this
  rw [hk] at this
  simp at this
  exact this.1
theorem check_parts {x : Lexicon} (h : checkV x = 0) : tooMany x = false ∧ good Entry.ok Entry.same x.entries = true ∧ good Ending.ok Ending.same x.endings = true ∧ good Clitic.ok Clitic.same x.clitics = true := by
  unfold checkV at h
  split at h
  · cases h
  · rename_i h0
    split at h
    · cases h
    · rename_i h1
      split at h
      · cases h
      · rename_i h2
        split at h
        · cases h
        · rename_i h3
          exact ⟨by simpa using h0, by simpa using h1, by simpa using h2, by simpa using h3⟩
theorem form_parts {x : Lexicon} {f : Form} (h : formV x f = 0) : Valid x f ∧ ∃ e, x.entries[f.entry.toNat]? = some e ∧ 0 ≤ f.entry ∧ f.entry < (x.entries.length : Int) ∧ 1 ≤ e.kind ∧ e.kind ≤ 9 := by
  have hv := valid_of h
  refine ⟨hv, x.entries[f.entry.toNat]'(by have := hv.ent; omega), List.getElem?_eq_getElem _, hv.ent.1, hv.ent.2, ?_⟩
  have := good_at (check_parts hv.chk).2.1 (List.getElem?_eq_getElem (by have := hv.ent; omega : f.entry.toNat < x.entries.length))
  simp [Entry.ok, withinB] at this
  exact this.1.1.2
theorem ok_entry {e : Entry} (h : e.ok = true) : 1 ≤ e.root.size ∧ e.root.size ≤ 8 ∧ (e.cls.toList.isEmpty = true ∨ e.cls.size ≤ 8) ∧ 1 ≤ e.kind ∧ e.kind ≤ 9 ∧ 0 ≤ e.weight ∧ e.weight ≤ 1000 ∧ allL e.root = true := by
  simp only [Entry.ok, soundsB, nameB, withinB, Bool.and_eq_true, Bool.or_eq_true, decide_eq_true_eq] at h
  obtain ⟨⟨⟨⟨⟨h1, h2⟩, h2'⟩, h3⟩, h4⟩, h5⟩ := h
  refine ⟨h1, by omega, h4.imp id (fun q => q.1.2), h3.1, h3.2, h5.1, h5.2, h2'⟩
theorem ok_ending {e : Ending} (h : e.ok = true) : 1 ≤ e.text.size ∧ e.text.size ≤ 4 ∧ e.name.size ≤ 8 ∧ 0 ≤ e.weight ∧ e.weight ≤ 1000 ∧ allL e.text = true ∧ allS e.name = true ∧ 1 ≤ e.kind ∧ e.kind ≤ 9 := by
  simp only [Ending.ok, soundsB, nameB, withinB, Bool.and_eq_true, decide_eq_true_eq] at h
  obtain ⟨⟨⟨h0, ⟨h1, h2⟩, h2'⟩, ⟨h3, h3b⟩, h3'⟩, h4⟩ := h
  exact ⟨h1, by omega, h3b, h4.1, h4.2, h2', h3', h0.1, h0.2⟩
theorem ok_clitic {e : Clitic} (h : e.ok = true) : 1 ≤ e.text.size ∧ e.text.size ≤ 4 ∧ e.name.size ≤ 8 ∧ 0 ≤ e.weight ∧ e.weight ≤ 1000 ∧ allL e.text = true ∧ allS e.name = true := by
  simp only [Clitic.ok, soundsB, nameB, withinB, Bool.and_eq_true, decide_eq_true_eq] at h
  obtain ⟨⟨⟨⟨h1, h2⟩, h2'⟩, ⟨h3, h3b⟩, h3'⟩, h4⟩ := h
  exact ⟨h1, by omega, h3b, h4.1, h4.2, h2', h3'⟩
theorem size_isEmpty {b : ByteArray} (h : b.toList.isEmpty = true) : b.size = 0 := by
  rw [List.isEmpty_iff, Go.Lib.toList_data] at h
  have : b.data.toList.length = 0 := by rw [h]; rfl
  simpa using this
theorem glossHead_size (e : Entry) (hd : (Go.Lib.decDigits e.kind.toNat).length ≤ 1) (hr : e.root.size ≤ 8) (hc : e.cls.size ≤ 8) : (glossHead e).size ≤ 20 := by
  have h1 : (⟨#[47]⟩ : ByteArray).size = 1 := rfl
  have h2 : (⟨(Go.Lib.decDigits e.kind.toNat).toArray⟩ : ByteArray).size = (Go.Lib.decDigits e.kind.toNat).length := by simp [ByteArray.size]
  unfold glossHead
  split <;> simp only [ByteArray.size_append, h1, h2] <;> omega
theorem glossEnd_size {x : Lexicon} {f : Form} {t : ByteArray} (hg : good Ending.ok Ending.same x.endings = true) (ht : t.size ≤ 20) : (glossEnd x f t).size ≤ 40 := by
  have h1 : (⟨#[45]⟩ : ByteArray).size = 1 := rfl
  unfold glossEnd
  split
  · omega
  · split
    · rename_i g hgg
      have := (ok_ending (good_at hg hgg)).2.2.1
      simp only [ByteArray.size_append, h1]
      omega
    · omega
end Lx
