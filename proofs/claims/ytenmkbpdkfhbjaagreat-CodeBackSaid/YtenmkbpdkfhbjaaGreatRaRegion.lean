/- Plain notions of the lexicon: no program in sight.; Sign lists: plain notions, no program in sight.; How data lie in memory.; A region that draws its order: one invariant over 'what has been done' serves every order. -/
import Derived.Test.YtenmkbpdkfhbjaaGreatProg
import Derived.WalkKit
import Derived.WalkLawsBesides
import Derived.WalkSpells
import Derived.Lib.Hide
namespace Lx
/-- letters a..z, A..Z -/
def letter (c : UInt8) : Bool := (97 ≤ c && c ≤ 122) || (65 ≤ c && c ≤ 90)
def small (c : UInt8) : Bool := 97 ≤ c && c ≤ 122
def allL (s : ByteArray) : Bool := s.data.toList.all letter
def allS (s : ByteArray) : Bool := s.data.toList.all small
def soundsB (s : ByteArray) (most : Int) : Bool := decide (1 ≤ s.size) && decide ((s.size : Int) ≤ most) && allL s
def nameB (s : ByteArray) : Bool := decide (1 ≤ s.size) && decide (s.size ≤ 8) && allS s

structure Entry where
  root : ByteArray
  kind : Int
  cls : ByteArray
  weight : Int
structure Ending where
  kind : Int
  text : ByteArray
  name : ByteArray
  weight : Int
structure Clitic where
  text : ByteArray
  name : ByteArray
  weight : Int
structure Lexicon where
  entries : List Entry
  endings : List Ending
  clitics : List Clitic
structure Form where
  entry : Int
  ending : Int
  clitics : List Int

def withinB (n lo hi : Int) : Bool := decide (lo ≤ n) && decide (n ≤ hi)

def Entry.ok (e : Entry) : Bool := soundsB e.root 8 && withinB e.kind 1 9 && (e.cls.toList.isEmpty || nameB e.cls) && withinB e.weight 0 1000
def Entry.same (a b : Entry) : Bool := decide (a.root.toList = b.root.toList) && decide (a.kind = b.kind) && decide (a.cls.toList = b.cls.toList)
def Ending.ok (e : Ending) : Bool := withinB e.kind 1 9 && soundsB e.text 4 && nameB e.name && withinB e.weight 0 1000
def Ending.same (a b : Ending) : Bool := decide (a.kind = b.kind) && decide (a.name.toList = b.name.toList)
def Clitic.ok (e : Clitic) : Bool := soundsB e.text 4 && nameB e.name && withinB e.weight 0 1000
def Clitic.same (a b : Clitic) : Bool := decide (a.name.toList = b.name.toList)

section
variable {α : Type} (ok : α → Bool) (same : α → α → Bool) (xs : List α)
/-- the i-th one is right and like none before it -/
def okAt (i : Nat) : Bool := match xs[i]? with
  | none => true
  | some x => ok x && !((xs.take i).any fun y => same y x)
def good : Bool := (List.range xs.length).all (okAt ok same xs)
variable {ok same xs}
end

def tooMany (x : Lexicon) : Bool := decide (200 < x.entries.length) || decide (40 < x.endings.length) || decide (10 < x.clitics.length)
def checkV (x : Lexicon) : Int :=
  if tooMany x then 2 else if good Entry.ok Entry.same x.entries = false then 45 else if good Ending.ok Ending.same x.endings = false then 46
  else if good Clitic.ok Clitic.same x.clitics = false then 47 else 0

/-- the ending of a form is one, and of the entry's kind -/
def endOK (x : Lexicon) (f : Form) : Bool :=
  decide (f.ending = -1) || (withinB f.ending 0 ((x.endings.length : Int) - 1) && (match x.endings[f.ending.toNat]?, x.entries[f.entry.toNat]? with
    | some g, some e => decide (g.kind = e.kind)
    | _, _ => false))
/-- clitics ascend from 'last' on, each below n -/
def clitOK (n : Int) : Int → List Int → Bool
  | _, [] => true
  | last, c :: r => decide (last < c) && (decide (c < n) && clitOK n c r)
def formV (x : Lexicon) (f : Form) : Int :=
  if checkV x ≠ 0 then checkV x else if withinB f.entry 0 ((x.entries.length : Int) - 1) = false then 45 else if endOK x f = false then 46
  else if 3 < f.clitics.length then 47 else if clitOK x.clitics.length (-1) f.clitics = false then 47 else 0

theorem within_iff {n lo hi : Int} : withinB n lo hi = true ↔ lo ≤ n ∧ n ≤ hi := by simp [withinB]
def bigE (e : Entry) : Bool := decide (100 < e.root.size) || decide (100 < e.cls.size)
def bigN (e : Ending) : Bool := decide (100 < e.text.size) || decide (100 < e.name.size)
def bigC (e : Clitic) : Bool := decide (100 < e.text.size) || decide (100 < e.name.size)
def bigV (x : Lexicon) : Bool := decide (210 < x.entries.length) || decide (50 < x.endings.length) || decide (15 < x.clitics.length) || x.entries.any bigE || x.endings.any bigN || x.clitics.any bigC
end Lx
namespace Sg
structure Value where
  kind : Int
  text : ByteArray
  lo : Int
  hi : Int
structure Sign where
  code : ByteArray
  wide : Int
  high : Int
  even : Bool
  values : List Value
structure SList where
  periods : Int
  signs : List Sign

def upper (c : UInt8) : Bool := 65 ≤ c && c ≤ 90
def digit (c : UInt8) : Bool := 48 ≤ c && c ≤ 57
def alnum (c : UInt8) : Bool := Lx.letter c || digit c
def codeB (s : ByteArray) : Bool := decide (1 ≤ s.size) && decide (s.size ≤ 8) && (match s.data.toList[0]? with | some c => upper c | none => false) && s.data.toList.all alnum
def textC (kind : Int) (c : UInt8) : Bool := Lx.small c || (!decide (kind = 3) && upper c)
def textB (kind : Int) (s : ByteArray) : Bool := decide (1 ≤ s.size) && decide (s.size ≤ 8) && s.data.toList.all (textC kind)
def meetB (a b : Value) : Bool := decide (a.kind = b.kind) && decide (a.text = b.text) && decide (a.lo ≤ b.hi) && decide (b.lo ≤ a.hi)
/-- the error of a value behind others -/
def valueV (periods : Int) (before : List Value) (v : Value) : Int :=
  if v.kind < 1 ∨ 3 < v.kind ∨ textB v.kind v.text = false then 12 else if v.lo < 1 ∨ v.hi < v.lo ∨ periods < v.hi then 13 else if before.any (meetB v) then 12 else 0
/-- the first that is no nought, of n -/
def firstE (f : Nat → Int) (n : Nat) : Int := match (List.range n).find? (fun j => !decide (f j = 0)) with
  | some j => f j
  | none => 0
theorem firstE_zero {f : Nat → Int} {n : Nat} (h : ∀ j, j < n → f j = 0) : firstE f n = 0 := by
  unfold firstE
  have : (List.range n).find? (fun j => !decide (f j = 0)) = none := by
    rw [List.find?_eq_none]
    intro j hj
    rw [List.mem_range] at hj
    simp [h j hj]
  rw [this]
theorem firstE_at {f : Nat → Int} {n k : Nat} (hk : k < n) (h : ∀ j, j < k → f j = 0) (h0 : f k ≠ 0) : firstE f n = f k := by
  unfold firstE
  have : (List.range n).find? (fun j => !decide (f j = 0)) = some k := by
    obtain ⟨m, rfl⟩ : ∃ m, n = k + (m + 1) := ⟨n - k - 1, by omega⟩
    rw [List.range_add, List.find?_append]
    have e1 : (List.range k).find? (fun j => !decide (f j = 0)) = none := by
      rw [List.find?_eq_none]
      intro j hj
      rw [List.mem_range] at hj
      simp [h j hj]
    rw [e1, List.range_succ_eq_map]
    simp [h0]
  rw [this]
theorem firstE_ne {f : Nat → Int} {n : Nat} (h : firstE f n = 0) : ∀ j, j < n → f j = 0 := by
  intro j hj
  refine Decidable.byContradiction fun h0 => ?_
  have : ∀ m, m ≤ j → (∀ i, i < m → f i = 0) ∨ ∃ k, k < m ∧ (∀ i, i < k → f i = 0) ∧ f k ≠ 0 := by
    intro m
    induction m with
    | zero => intro _; left; intro i hi; omega
    | succ m ih =>
      intro hm
      rcases ih (by omega) with h1 | ⟨k, hk, h1, h2⟩
      · by_cases q : f m = 0
        · left
          intro i hi
          by_cases e : i = m
          · rw [e]; exact q
          · exact h1 i (by omega)
        · exact .inr ⟨m, by omega, h1, q⟩
      · exact .inr ⟨k, by omega, h1, h2⟩
  rcases this j (Nat.le_refl _) with h1 | ⟨k, hk, h1, h2⟩
  · rw [firstE_at hj h1 h0] at h; exact h0 h
  · rw [firstE_at (by omega) h1 h2] at h; exact h2 h
def valueAt (periods : Int) (l : List Value) (k : Nat) : Int := match l[k]? with
  | some v => valueV periods (l.take k) v
  | none => 0
def valuesV (periods : Int) (l : List Value) : Int := firstE (valueAt periods l) l.length
def sizeBad (s : Sign) : Prop := s.wide < 1 ∨ 12 < s.wide ∨ s.high < 1 ∨ 12 < s.high
instance (s : Sign) : Decidable (sizeBad s) := by unfold sizeBad; infer_instance
/-- the error of a sign, but for its code -/
def bodyV (periods : Int) (s : Sign) : Int := if sizeBad s then 11 else if 12 < s.values.length then 2 else valuesV periods s.values
def signV (periods : Int) (before : List Sign) (s : Sign) : Int := if codeB s.code = false ∨ before.any (fun t => decide (t.code = s.code)) = true then 10 else bodyV periods s
def signAt (l : SList) (k : Nat) : Int := match l.signs[k]? with
  | some s => signV l.periods (l.signs.take k) s
  | none => 0
def checkV (l : SList) : Int := if 200 < l.signs.length then 2 else if l.periods < 1 ∨ 9 < l.periods then 13 else firstE (signAt l) l.signs.length

end Sg
namespace Go.Proofs.YtenmkbpdkfhbjaaGreat
open Go.RowKit


/-- The slice value v holds the rows of xs (each of 'size' cells), below block B. -/
def RdS {α : Type} (w : World) (B size : Nat) (enc : α → List Value) (v : Value) (xs : List α) : Prop :=
  ∃ A c, v = .slice A xs.length c ∧ xs.length ≤ c ∧ c ≤ 9223372036854775807 ∧
    (0 < xs.length → ∃ b off, A = some ⟨b, off, none⟩ ∧ b < B ∧ ∀ i x, xs[i]? = some x → ∀ j u, (enc x)[j]? = some u → w.cell? ⟨b, off + i * size + j, none⟩ = some u)

section
variable {α : Type} {w w' : World} {B B' size : Nat} {enc : α → List Value} {v : Value} {xs : List α}
theorem RdS.keep (h : RdS w B size enc v xs) (hk : ∀ p : Addr, p.block < B → w'.cell? p = w.cell? p) : RdS w' B size enc v xs := by
  obtain ⟨A, c, hv, hl, hc, hh⟩ := h
  refine ⟨A, c, hv, hl, hc, fun h0 => ?_⟩
  obtain ⟨b, off, hA, hb, hcell⟩ := hh h0
  exact ⟨b, off, hA, hb, fun i x hx j u hu => (hk _ hb).trans (hcell i x hx j u hu)⟩
theorem RdS.below (h : RdS w B size enc v xs) (hb : Below B w w') : RdS w' B size enc v xs := h.keep fun _ hp => hb.cell hp
theorem RdS.more (h : RdS w B size enc v xs) (hB : B ≤ B') : RdS w B' size enc v xs := by
  obtain ⟨A, c, hv, hl, hc, hh⟩ := h
  refine ⟨A, c, hv, hl, hc, fun h0 => ?_⟩
  obtain ⟨b, off, hA, hb, hcell⟩ := hh h0
  exact ⟨b, off, hA, by omega, hcell⟩
end

def encEntry (e : Lx.Entry) : List Value := [.string e.root, .int .i64 e.kind, .string e.cls, .int .i64 e.weight]
def encEnding (e : Lx.Ending) : List Value := [.int .i64 e.kind, .string e.text, .string e.name, .int .i64 e.weight]
def encClitic (e : Lx.Clitic) : List Value := [.string e.text, .string e.name, .int .i64 e.weight]
def encInt (n : Int) : List Value := [.int .i64 n]

/-- strings and numbers within what the machine holds -/
def Lx.Entry.fits (e : Lx.Entry) : Prop := e.root.size ≤ maxLen ∧ e.cls.size ≤ maxLen
def Lx.Ending.fits (e : Lx.Ending) : Prop := e.text.size ≤ maxLen ∧ e.name.size ≤ maxLen
def Lx.Clitic.fits (e : Lx.Clitic) : Prop := e.text.size ≤ maxLen ∧ e.name.size ≤ maxLen

structure RdL (w : World) (B : Nat) (v : Value) (x : Lx.Lexicon) : Prop where
  ex : ∃ v0 v1 v2, v = .agg #[v0, v1, v2] ∧ RdS w B 4 encEntry v0 x.entries ∧ RdS w B 4 encEnding v1 x.endings ∧ RdS w B 3 encClitic v2 x.clitics
  fe : ∀ e ∈ x.entries, Lx.Entry.fits e
  fn : ∀ e ∈ x.endings, Lx.Ending.fits e
  fc : ∀ e ∈ x.clitics, Lx.Clitic.fits e
theorem RdL.keep {w w' : World} {B : Nat} {v : Value} {x : Lx.Lexicon} (h : RdL w B v x) (hk : ∀ p : Addr, p.block < B → w'.cell? p = w.cell? p) : RdL w' B v x := by
  obtain ⟨⟨v0, v1, v2, hv, h0, h1, h2⟩, a, b, c⟩ := h
  exact ⟨⟨v0, v1, v2, hv, h0.keep hk, h1.keep hk, h2.keep hk⟩, a, b, c⟩
theorem RdL.below {w w' : World} {B : Nat} {v : Value} {x : Lx.Lexicon} (h : RdL w B v x) (hb : Below B w w') : RdL w' B v x := h.keep fun _ hp => hb.cell hp
theorem RdL.more {w : World} {B B' : Nat} {v : Value} {x : Lx.Lexicon} (h : RdL w B v x) (hB : B ≤ B') : RdL w B' v x := by
  obtain ⟨⟨v0, v1, v2, hv, h0, h1, h2⟩, a, b, c⟩ := h
  exact ⟨⟨v0, v1, v2, hv, h0.more hB, h1.more hB, h2.more hB⟩, a, b, c⟩
/-- a form -/
structure RdF (w : World) (B : Nat) (v : Value) (f : Lx.Form) : Prop where
  ex : ∃ s, v = .agg #[.int .i64 f.entry, .int .i64 f.ending, s] ∧ RdS w B 1 encInt s f.clitics
theorem RdF.keep {w w' : World} {B : Nat} {v : Value} {f : Lx.Form} (h : RdF w B v f) (hk : ∀ p : Addr, p.block < B → w'.cell? p = w.cell? p) : RdF w' B v f := by
  obtain ⟨⟨s, hv, h0⟩⟩ := h
  exact ⟨⟨s, hv, h0.keep hk⟩⟩
theorem RdF.below {w w' : World} {B : Nat} {v : Value} {f : Lx.Form} (h : RdF w B v f) (hb : Below B w w') : RdF w' B v f := h.keep fun _ hp => hb.cell hp
theorem RdF.more {w : World} {B B' : Nat} {v : Value} {f : Lx.Form} (h : RdF w B v f) (hB : B ≤ B') : RdF w B' v f := by
  obtain ⟨⟨s, hv, h0⟩⟩ := h
  exact ⟨⟨s, hv, h0.more hB⟩⟩
end Go.Proofs.YtenmkbpdkfhbjaaGreat
namespace Go.Proofs.YtenmkbpdkfhbjaaGreat
open Go Go.RowKit

section
variable {P : Program} {ops : Array Oper} {Q : Exit → Act → World → Prop} {md : Region.Mode}

theorem count_set {l : Array Bool} {i : Nat} (h : l.getD i true = false) : (l.setIfInBounds i true).toList.count false + 1 = l.toList.count false := by
  have hi : i < l.size := by
    rcases Nat.lt_or_ge i l.size with h1 | h1
    · exact h1
    · simp [Array.getD, Nat.not_lt.2 h1] at h
  have hli : l.toList[i]'(by simpa using hi) = false := by
    simp [Array.getD, hi] at h
    simpa using h
  have hp : 0 < l.toList.count false := List.count_pos_iff.2 (by have := List.getElem_mem (l := l.toList) (n := i) (by simpa using hi); rwa [hli] at this)
  rw [Array.toList_setIfInBounds, List.count_set (by simpa using hi), hli]
  simp only [beq_self_eq_true, if_true, show (true == false) = false from rfl, Bool.false_eq_true, if_false]
  omega

theorem mem_ready {l : Array Bool} {i : Nat} (h : i ∈ Region.ready md ops l) : i < ops.size ∧ l.getD i true = false ∧ ∀ o, ops[i]? = some o → ∀ e ∈ o.after, Region.binds md e = true → l.getD e.on false = true := by
  unfold Region.ready at h
  rw [List.mem_filter, List.mem_range] at h
  obtain ⟨h1, h2⟩ := h
  simp only [Bool.and_eq_true, Bool.not_eq_true'] at h2
  refine ⟨h1, h2.1, fun o ho e he hb => ?_⟩
  have h3 := h2.2
  rw [ho] at h3
  simp only [Option.map_some, Option.getD_some] at h3
  have h4 := Array.all_eq_true'.1 h3 e he
  rw [hb] at h4
  simpa using h4





theorem wpOp_plain {i : Nat} {o : Oper} {K : Act → World → Prop} {a : Act} {w : World} (ho : ops[i]? = some o) (hg : o.guard = none) (h : o.wp P a w K Q) : wpOp P ops Q i K a w := by
  unfold wpOp
  rw [ho]
  simp only [Region.wanted, hg, if_true]
  exact .inl h
theorem wpOp_guard {i : Nat} {o : Oper} {K : Act → World → Prop} {a : Act} {w : World} (ho : ops[i]? = some o) (hg : Region.wanted o (yielded ops a.tmps) = true) (h : o.wp P a w K Q) : wpOp P ops Q i K a w := by
  unfold wpOp
  rw [ho]
  simp only [hg, if_true]
  exact .inl h
theorem wanted_of {t : Array Value} {o : Oper} {g d : Nat} {b : Bool} (hg : o.guard = some (g, b)) (hx : (ops[g]?).bind (·.dst) = some d) (h : t[d]? = some (.bool b)) : Region.wanted o (yielded ops t) = true := by
  simp [Region.wanted, hg, yielded, hx, h]
theorem set_same {t : Array Value} {d : Nat} {v : Value} (h : d < t.size) : (t.setIfInBounds d v)[d]? = some v := by simp [h]
theorem set_other {t : Array Value} {d k : Nat} {v : Value} (h : k ≠ d) : (t.setIfInBounds d v)[k]? = t[k]? := by
  simp [Ne.symm h]
theorem getD_set {l : Array Bool} {i j : Nat} (hi : i < l.size) : (l.setIfInBounds i true).getD j false = true ↔ j = i ∨ l.getD j false = true := by
  by_cases h : j = i
  · subst h; simp [Array.getD, hi]
  · have : (l.setIfInBounds i true).getD j false = l.getD j false := by
      by_cases hj : j < l.size
      · simp [Array.getD, hj, Ne.symm h]
      · simp [Array.getD, hj]
    rw [this]
    simp [h]
end
end Go.Proofs.YtenmkbpdkfhbjaaGreat
