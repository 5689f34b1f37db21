/- Plain notions of the lexicon: no program in sight.; Sign lists: plain notions, no program in sight.; How data lie in memory.; A region that draws its order: one invariant over 'what has been done' serves every order.; Rows of the call's own, and slices that read as lists.; The reference's Copy: an equal lexicon in new memory. Made by gen_copy.py.; Contracts of the leaf functions. -/
import Derived.Test.YtenmkbpdkfhbjaaGreatProg
import Derived.WalkKit
import Derived.WalkLawsBesides
import Derived.WalkSpells
import Derived.Lib.Hide
import Derived.Maps.AppendAt
import Derived.Deep.AppendLies
import Derived.RegionTactic
import Derived.OwnWalk
import Derived.Deep.Light
namespace Lx
def letter (c : UInt8) : Bool := (97 ≤ c && c ≤ 122) || (65 ≤ c && c ≤ 90)
def small (c : UInt8) : Bool := 97 ≤ c && c ≤ 122
def allL (s : ByteArray) : Bool := s.data.toList.all letter
def allS (s : ByteArray) : Bool := s.data.toList.all small
def soundsB (s : ByteArray) (most : Int) : Bool := decide (1 ≤ s.size) && decide ((s.size : Int) ≤ most) && allL s
def nameB (s : ByteArray) : Bool := decide (1 ≤ s.size) && decide (s.size ≤ 8) && allS s

structure Entry where
 root : ByteArray
 kind : Int
 cls : ByteArray
 weight : Int
structure Ending where
 kind : Int
 text : ByteArray
 name : ByteArray
 weight : Int
structure Clitic where
 text : ByteArray
 name : ByteArray
 weight : Int
structure Lexicon where
 entries : List Entry
 endings : List Ending
 clitics : List Clitic
structure Form where
 entry : Int
 ending : Int
 clitics : List Int

def withinB (n lo hi : Int) : Bool := decide (lo ≤ n) && decide (n ≤ hi)

def Entry.ok (e : Entry) : Bool := soundsB e.root 8 && withinB e.kind 1 9 && (e.cls.toList.isEmpty || nameB e.cls) && withinB e.weight 0 1000
def Entry.same (a b : Entry) : Bool := decide (a.root.toList = b.root.toList) && decide (a.kind = b.kind) && decide (a.cls.toList = b.cls.toList)
def Ending.ok (e : Ending) : Bool := withinB e.kind 1 9 && soundsB e.text 4 && nameB e.name && withinB e.weight 0 1000
def Ending.same (a b : Ending) : Bool := decide (a.kind = b.kind) && decide (a.name.toList = b.name.toList)
def Clitic.ok (e : Clitic) : Bool := soundsB e.text 4 && nameB e.name && withinB e.weight 0 1000
def Clitic.same (a b : Clitic) : Bool := decide (a.name.toList = b.name.toList)

section
variable {α : Type} (ok : α → Bool) (same : α → α → Bool) (xs : List α)
def okAt (i : Nat) : Bool := match xs[i]? with
 | none => true
 | some x => ok x && !((xs.take i).any fun y => same y x)
def good : Bool := (List.range xs.length).all (okAt ok same xs)
variable {ok same xs}
end

def tooMany (x : Lexicon) : Bool := decide (200 < x.entries.length) || decide (40 < x.endings.length) || decide (10 < x.clitics.length)
def checkV (x : Lexicon) : Int :=
 if tooMany x then 2 else if good Entry.ok Entry.same x.entries = false then 45 else if good Ending.ok Ending.same x.endings = false then 46
 else if good Clitic.ok Clitic.same x.clitics = false then 47 else 0

def endOK (x : Lexicon) (f : Form) : Bool :=
 decide (f.ending = -1) || (withinB f.ending 0 ((x.endings.length : Int) - 1) && (match x.endings[f.ending.toNat]?, x.entries[f.entry.toNat]? with
  | some g, some e => decide (g.kind = e.kind)
  | _, _ => false))
def clitOK (n : Int) : Int → List Int → Bool
 | _, [] => true
 | last, c :: r => decide (last < c) && (decide (c < n) && clitOK n c r)
def formV (x : Lexicon) (f : Form) : Int :=
 if checkV x ≠ 0 then checkV x else if withinB f.entry 0 ((x.entries.length : Int) - 1) = false then 45 else if endOK x f = false then 46
 else if 3 < f.clitics.length then 47 else if clitOK x.clitics.length (-1) f.clitics = false then 47 else 0

theorem within_iff {n lo hi : Int} : withinB n lo hi = true ↔ lo ≤ n ∧ n ≤ hi := by simp [withinB]
end Lx
namespace Sg
structure Value where
 kind : Int
 text : ByteArray
 lo : Int
 hi : Int
structure Sign where
 code : ByteArray
 wide : Int
 high : Int
 even : Bool
 values : List Value
structure SList where
 periods : Int
 signs : List Sign

def upper (c : UInt8) : Bool := 65 ≤ c && c ≤ 90
def digit (c : UInt8) : Bool := 48 ≤ c && c ≤ 57
def alnum (c : UInt8) : Bool := Lx.letter c || digit c
def codeB (s : ByteArray) : Bool := decide (1 ≤ s.size) && decide (s.size ≤ 8) && (match s.data.toList[0]? with | some c => upper c | none => false) && s.data.toList.all alnum
def textC (kind : Int) (c : UInt8) : Bool := Lx.small c || (!decide (kind = 3) && upper c)
def textB (kind : Int) (s : ByteArray) : Bool := decide (1 ≤ s.size) && decide (s.size ≤ 8) && s.data.toList.all (textC kind)
def meetB (a b : Value) : Bool := decide (a.kind = b.kind) && decide (a.text = b.text) && decide (a.lo ≤ b.hi) && decide (b.lo ≤ a.hi)
def valueV (periods : Int) (before : List Value) (v : Value) : Int :=
 if v.kind < 1 ∨ 3 < v.kind ∨ textB v.kind v.text = false then 12 else if v.lo < 1 ∨ v.hi < v.lo ∨ periods < v.hi then 13 else if before.any (meetB v) then 12 else 0
def firstE (f : Nat → Int) (n : Nat) : Int := match (List.range n).find? (fun j => !decide (f j = 0)) with
 | some j => f j
 | none => 0
theorem firstE_zero {f : Nat → Int} {n : Nat} (h : ∀ j, j < n → f j = 0) : firstE f n = 0 := by
 unfold firstE
 have : (List.range n).find? (fun j => !decide (f j = 0)) = none := by
  rw [List.find?_eq_none]
  intro j hj
  rw [List.mem_range] at hj
  simp [h j hj]
 rw [this]
theorem firstE_at {f : Nat → Int} {n k : Nat} (hk : k < n) (h : ∀ j, j < k → f j = 0) (h0 : f k ≠ 0) : firstE f n = f k := by
 unfold firstE
 have : (List.range n).find? (fun j => !decide (f j = 0)) = some k := by
  obtain ⟨m, rfl⟩ : ∃ m, n = k + (m + 1) := ⟨n - k - 1, by omega⟩
  rw [List.range_add, List.find?_append]
  have e1 : (List.range k).find? (fun j => !decide (f j = 0)) = none := by
   rw [List.find?_eq_none]
   intro j hj
   rw [List.mem_range] at hj
   simp [h j hj]
  rw [e1, List.range_succ_eq_map]
  simp [h0]
 rw [this]
theorem firstE_ne {f : Nat → Int} {n : Nat} (h : firstE f n = 0) : ∀ j, j < n → f j = 0 := by
 intro j hj
 refine Decidable.byContradiction fun h0 => ?_
 have : ∀ m, m ≤ j → (∀ i, i < m → f i = 0) ∨ ∃ k, k < m ∧ (∀ i, i < k → f i = 0) ∧ f k ≠ 0 := by
  intro m
  induction m with
  | zero => intro _; left; intro i hi; omega
  | succ m ih =>
   intro hm
   rcases ih (by omega) with h1 | ⟨k, hk, h1, h2⟩
   ·by_cases q : f m = 0
    ·left
     intro i hi
     by_cases e : i = m
     ·rw [e]; exact q
     ·exact h1 i (by omega)
    ·exact .inr ⟨m, by omega, h1, q⟩
   ·exact .inr ⟨k, by omega, h1, h2⟩
 rcases this j (Nat.le_refl _) with h1 | ⟨k, hk, h1, h2⟩
 ·rw [firstE_at hj h1 h0] at h; exact h0 h
 ·rw [firstE_at (by omega) h1 h2] at h; exact h2 h
def valueAt (periods : Int) (l : List Value) (k : Nat) : Int := match l[k]? with
 | some v => valueV periods (l.take k) v
 | none => 0
def valuesV (periods : Int) (l : List Value) : Int := firstE (valueAt periods l) l.length
def sizeBad (s : Sign) : Prop := s.wide < 1 ∨ 12 < s.wide ∨ s.high < 1 ∨ 12 < s.high
instance (s : Sign) : Decidable (sizeBad s) := by unfold sizeBad; infer_instance
def bodyV (periods : Int) (s : Sign) : Int := if sizeBad s then 11 else if 12 < s.values.length then 2 else valuesV periods s.values
def signV (periods : Int) (before : List Sign) (s : Sign) : Int := if codeB s.code = false ∨ before.any (fun t => decide (t.code = s.code)) = true then 10 else bodyV periods s
def signAt (l : SList) (k : Nat) : Int := match l.signs[k]? with
 | some s => signV l.periods (l.signs.take k) s
 | none => 0
def checkV (l : SList) : Int := if 200 < l.signs.length then 2 else if l.periods < 1 ∨ 9 < l.periods then 13 else firstE (signAt l) l.signs.length

end Sg
namespace Go.Proofs.YtenmkbpdkfhbjaaGreat
open Go.RowKit


def RdS {α : Type} (w : World) (B size : Nat) (enc : α → List Value) (v : Value) (xs : List α) : Prop :=
 ∃ A c, v = .slice A xs.length c ∧ xs.length ≤ c ∧ c ≤ 9223372036854775807 ∧
  (0 < xs.length → ∃ b off, A = some ⟨b, off, none⟩ ∧ b < B ∧ ∀ i x, xs[i]? = some x → ∀ j u, (enc x)[j]? = some u → w.cell? ⟨b, off + i * size + j, none⟩ = some u)

section
variable {α : Type} {w w' : World} {B B' size : Nat} {enc : α → List Value} {v : Value} {xs : List α}
theorem RdS.keep (h : RdS w B size enc v xs) (hk : ∀ p : Addr, p.block < B → w'.cell? p = w.cell? p) : RdS w' B size enc v xs := by
 obtain ⟨A, c, hv, hl, hc, hh⟩ := h
 refine ⟨A, c, hv, hl, hc, fun h0 => ?_⟩
 obtain ⟨b, off, hA, hb, hcell⟩ := hh h0
 exact ⟨b, off, hA, hb, fun i x hx j u hu => (hk _ hb).trans (hcell i x hx j u hu)⟩
theorem RdS.below (h : RdS w B size enc v xs) (hb : Below B w w') : RdS w' B size enc v xs := h.keep fun _ hp => hb.cell hp
theorem RdS.more (h : RdS w B size enc v xs) (hB : B ≤ B') : RdS w B' size enc v xs := by
 obtain ⟨A, c, hv, hl, hc, hh⟩ := h
 refine ⟨A, c, hv, hl, hc, fun h0 => ?_⟩
 obtain ⟨b, off, hA, hb, hcell⟩ := hh h0
 exact ⟨b, off, hA, by omega, hcell⟩
end

def encEntry (e : Lx.Entry) : List Value := [.string e.root, .int .i64 e.kind, .string e.cls, .int .i64 e.weight]
def encEnding (e : Lx.Ending) : List Value := [.int .i64 e.kind, .string e.text, .string e.name, .int .i64 e.weight]
def encClitic (e : Lx.Clitic) : List Value := [.string e.text, .string e.name, .int .i64 e.weight]
def encInt (n : Int) : List Value := [.int .i64 n]

def Lx.Entry.fits (e : Lx.Entry) : Prop := e.root.size ≤ maxLen ∧ e.cls.size ≤ maxLen
def Lx.Ending.fits (e : Lx.Ending) : Prop := e.text.size ≤ maxLen ∧ e.name.size ≤ maxLen
def Lx.Clitic.fits (e : Lx.Clitic) : Prop := e.text.size ≤ maxLen ∧ e.name.size ≤ maxLen

structure RdL (w : World) (B : Nat) (v : Value) (x : Lx.Lexicon) : Prop where
 ex : ∃ v0 v1 v2, v = .agg #[v0, v1, v2] ∧ RdS w B 4 encEntry v0 x.entries ∧ RdS w B 4 encEnding v1 x.endings ∧ RdS w B 3 encClitic v2 x.clitics
 fe : ∀ e ∈ x.entries, Lx.Entry.fits e
 fn : ∀ e ∈ x.endings, Lx.Ending.fits e
 fc : ∀ e ∈ x.clitics, Lx.Clitic.fits e
theorem RdL.keep {w w' : World} {B : Nat} {v : Value} {x : Lx.Lexicon} (h : RdL w B v x) (hk : ∀ p : Addr, p.block < B → w'.cell? p = w.cell? p) : RdL w' B v x := by
 obtain ⟨⟨v0, v1, v2, hv, h0, h1, h2⟩, a, b, c⟩ := h
 exact ⟨⟨v0, v1, v2, hv, h0.keep hk, h1.keep hk, h2.keep hk⟩, a, b, c⟩
theorem RdL.below {w w' : World} {B : Nat} {v : Value} {x : Lx.Lexicon} (h : RdL w B v x) (hb : Below B w w') : RdL w' B v x := h.keep fun _ hp => hb.cell hp
theorem RdL.more {w : World} {B B' : Nat} {v : Value} {x : Lx.Lexicon} (h : RdL w B v x) (hB : B ≤ B') : RdL w B' v x := by
 obtain ⟨⟨v0, v1, v2, hv, h0, h1, h2⟩, a, b, c⟩ := h
 exact ⟨⟨v0, v1, v2, hv, h0.more hB, h1.more hB, h2.more hB⟩, a, b, c⟩
structure RdF (w : World) (B : Nat) (v : Value) (f : Lx.Form) : Prop where
 ex : ∃ s, v = .agg #[.int .i64 f.entry, .int .i64 f.ending, s] ∧ RdS w B 1 encInt s f.clitics
theorem RdF.keep {w w' : World} {B : Nat} {v : Value} {f : Lx.Form} (h : RdF w B v f) (hk : ∀ p : Addr, p.block < B → w'.cell? p = w.cell? p) : RdF w' B v f := by
 obtain ⟨⟨s, hv, h0⟩⟩ := h
 exact ⟨⟨s, hv, h0.keep hk⟩⟩
theorem RdF.below {w w' : World} {B : Nat} {v : Value} {f : Lx.Form} (h : RdF w B v f) (hb : Below B w w') : RdF w' B v f := h.keep fun _ hp => hb.cell hp
theorem RdF.more {w : World} {B B' : Nat} {v : Value} {f : Lx.Form} (h : RdF w B v f) (hB : B ≤ B') : RdF w B' v f := by
 obtain ⟨⟨s, hv, h0⟩⟩ := h
 exact ⟨⟨s, hv, h0.more hB⟩⟩
end Go.Proofs.YtenmkbpdkfhbjaaGreat
namespace Go.Proofs.YtenmkbpdkfhbjaaGreat
open Go Go.RowKit

section
variable {P : Program} {ops : Array Oper} {Q : Exit → Act → World → Prop} {md : Region.Mode}

theorem count_set {l : Array Bool} {i : Nat} (h : l.getD i true = false) : (l.setIfInBounds i true).toList.count false + 1 = l.toList.count false := by
 have hi : i < l.size := by
  rcases Nat.lt_or_ge i l.size with h1 | h1
  ·exact h1
  ·simp [Array.getD, Nat.not_lt.2 h1] at h
 have hli : l.toList[i]'(by simpa using hi) = false := by
  simp [Array.getD, hi] at h
  simpa using h
 have hp : 0 < l.toList.count false := List.count_pos_iff.2 (by have := List.getElem_mem (l := l.toList) (n := i) (by simpa using hi); rwa [hli] at this)
 rw [Array.toList_setIfInBounds, List.count_set (by simpa using hi), hli]
 simp only [beq_self_eq_true, if_true, show (true == false) = false from rfl, Bool.false_eq_true, if_false]
 omega

theorem mem_ready {l : Array Bool} {i : Nat} (h : i ∈ Region.ready md ops l) : i < ops.size ∧ l.getD i true = false ∧ ∀ o, ops[i]? = some o → ∀ e ∈ o.after, Region.binds md e = true → l.getD e.on false = true := by
 unfold Region.ready at h
 rw [List.mem_filter, List.mem_range] at h
 obtain ⟨h1, h2⟩ := h
 simp only [Bool.and_eq_true, Bool.not_eq_true'] at h2
 refine ⟨h1, h2.1, fun o ho e he hb => ?_⟩
 have h3 := h2.2
 rw [ho] at h3
 simp only [Option.map_some, Option.getD_some] at h3
 have h4 := Array.all_eq_true'.1 h3 e he
 rw [hb] at h4
 simpa using h4





theorem wpOp_plain {i : Nat} {o : Oper} {K : Act → World → Prop} {a : Act} {w : World} (ho : ops[i]? = some o) (hg : o.guard = none) (h : o.wp P a w K Q) : wpOp P ops Q i K a w := by
 unfold wpOp
 rw [ho]
 simp only [Region.wanted, hg, if_true]
 exact .inl h
theorem wpOp_guard {i : Nat} {o : Oper} {K : Act → World → Prop} {a : Act} {w : World} (ho : ops[i]? = some o) (hg : Region.wanted o (yielded ops a.tmps) = true) (h : o.wp P a w K Q) : wpOp P ops Q i K a w := by
 unfold wpOp
 rw [ho]
 simp only [hg, if_true]
 exact .inl h
theorem wanted_of {t : Array Value} {o : Oper} {g d : Nat} {b : Bool} (hg : o.guard = some (g, b)) (hx : (ops[g]?).bind (·.dst) = some d) (h : t[d]? = some (.bool b)) : Region.wanted o (yielded ops t) = true := by
 simp [Region.wanted, hg, yielded, hx, h]
theorem set_same {t : Array Value} {d : Nat} {v : Value} (h : d < t.size) : (t.setIfInBounds d v)[d]? = some v := by simp [h]
theorem set_other {t : Array Value} {d k : Nat} {v : Value} (h : k ≠ d) : (t.setIfInBounds d v)[k]? = t[k]? := by
 simp [Ne.symm h]
theorem getD_set {l : Array Bool} {i j : Nat} (hi : i < l.size) : (l.setIfInBounds i true).getD j false = true ↔ j = i ∨ l.getD j false = true := by
 by_cases h : j = i
 ·subst h; simp [Array.getD, hi]
 ·have : (l.setIfInBounds i true).getD j false = l.getD j false := by
   by_cases hj : j < l.size
   ·simp [Array.getD, hj, Ne.symm h]
   ·simp [Array.getD, hj]
  rw [this]
  simp [h]
end
end Go.Proofs.YtenmkbpdkfhbjaaGreat
namespace Go.Proofs.YtenmkbpdkfhbjaaGreat
open Go.RowKit

section
variable {α : Type} {enc : α → List Value} {size : Nat}
theorem flat_len (hu : ∀ x, (enc x).length = size) (xs : List α) : (xs.flatMap enc).length = xs.length * size := by
 induction xs with
 | nil => simp
 | cons x r ih => rw [List.flatMap_cons, List.length_append, hu, ih, List.length_cons, Nat.succ_mul, Nat.add_comm]
theorem flat_at (hu : ∀ x, (enc x).length = size) : ∀ (xs : List α) (i : Nat) (x : α), xs[i]? = some x → ∀ (j : Nat) (u : Value), (enc x)[j]? = some u → (xs.flatMap enc)[i * size + j]? = some u := by
 intro xs
 induction xs with
 | nil => intro i x h; simp at h
 | cons y r ih =>
  intro i x h j u hj
  rw [List.flatMap_cons]
  cases i with
  | zero =>
   simp at h
   subst h
   have hl : j < (enc y).length := (List.getElem?_eq_some_iff.1 hj).1
   rw [Nat.zero_mul, Nat.zero_add, List.getElem?_append_left hl]
   exact hj
  | succ i =>
   simp at h
   rw [List.getElem?_append_right (by rw [hu, Nat.succ_mul]; omega), hu]
   have : (i + 1) * size + j - size = i * size + j := by rw [Nat.succ_mul]; omega
   rw [this]
   exact ih i x h j u hj
theorem flat_inv (hu : ∀ x, (enc x).length = size) : ∀ (xs : List α) (k : Nat) (u : Value), (xs.flatMap enc)[k]? = some u → ∃ i j x, xs[i]? = some x ∧ (enc x)[j]? = some u ∧ k = i * size + j := by
 intro xs
 induction xs with
 | nil => intro k u h; simp at h
 | cons y r ih =>
  intro k u h
  rw [List.flatMap_cons] at h
  by_cases hk : k < size
  ·rw [List.getElem?_append_left (by rw [hu]; exact hk)] at h
   exact ⟨0, k, y, by simp, h, by simp⟩
  ·rw [List.getElem?_append_right (by rw [hu]; omega), hu] at h
   obtain ⟨i, j, x, h1, h2, h3⟩ := ih _ _ h
   exact ⟨i + 1, j, x, by simpa using h1, h2, by rw [Nat.succ_mul]; omega⟩
theorem addr_add (b off n : Nat) : (⟨b, off, none⟩ : Addr).add n = ⟨b, off + n, none⟩ := by
 unfold Addr.add
 split
 ·subst_vars; rfl
 ·rfl

theorem rds_of_own {w : World} {base : Nat} {e : TypeId} {v : Value} {xs : List α} (hu : ∀ x, (enc x).length = size) (h : w.ownsRow base e size v xs.length (xs.flatMap enc)) : RdS w w.heap.size size enc v xs := by
 obtain ⟨_, h2⟩ := id h
 rcases h2 with ⟨rfl, h0⟩ | ⟨g, cap, cur, rfl, hg, hh, hle, hm, hs, ht⟩
 ·exact ⟨none, 0, by rw [h0], by omega, by omega, fun hp => by omega⟩
 ·refine ⟨some ⟨g, 0, none⟩, cap, rfl, hle, by simpa [maxLen] using hm, fun _ => ⟨g, 0, rfl, ?_, fun i x hx j u hj => ?_⟩⟩
  ·exact (h.lt g rfl).2
  ·have := h.cells rfl (i * size + j) u (flat_at hu xs i x hx j u hj)
   rw [addr_add] at this
   rw [← this, Nat.add_assoc]

variable {P : Program} (w : World)
theorem append_of_none (base : Nat) (t ty e : TypeId) (i : TypeInfo) (ht : P.underlying t = some (.slice e)) (hi : P.info? e = some i)
  (v : Value) (n : Nat) (xs : List Value) (hown : w.ownsRow base e size v n xs) (c : Nat) : (Builtin.append_ #[t, t] ty #[v, .slice none 0 c]).run P w = .ok v w := by
 rcases hown.2 with ⟨rfl, rfl⟩ | ⟨g, cap, cur, rfl, _, _, hnc, _⟩
 ·simp [Builtin.append_, run_underlying ht, sizeOf, typeInfo, hi, Builtin.lenOf, Builtin.firstCells]
 ·simp [Builtin.append_, run_underlying ht, sizeOf, typeInfo, hi, Builtin.lenOf, Builtin.firstCells, hnc, storeCells]

theorem run_append_rd (base : Nat) (t ty e : TypeId) (i : TypeInfo) (z : Value) (size bytes : Nat) (hu : ∀ x, (enc x).length = size) (h1 : ∀ x, ∀ u ∈ enc x, u.oneCell' = true)
  (ht : P.underlying t = some (.slice e)) (hi : P.info? e = some i) (hz : i.zero = some z)
  (hsize : i.size = size) (hby : i.bytes = bytes) (hzs : z.cells.size = size) (hsz : 0 < size)
  (v : Value) (n : Nat) (xs : List Value) (hown : w.ownsRow base e size v n xs) (B : Nat) (s : Value) (ys : List α) (hr : RdS w B size enc s ys)
  (h63 : n + ys.length ≤ maxLen) (hbytes : (n + ys.length) * bytes ≤ 140737488355328) (hbase : base ≤ w.heap.size) :
  ∃ v' w', (Builtin.append_ #[t, t] ty #[v, s]).run P w = .ok v' w' ∧ w'.ownsRow base e size v' (n + ys.length) (xs ++ ys.flatMap enc) ∧ w.grownBy w' v.ownBlock ∧
   (v'.ownBlock = v.ownBlock ∨ v'.ownBlock = some w.heap.size) := by
 obtain ⟨A, c, rfl, hl, hc, hh⟩ := hr
 have h1' : ∀ u ∈ ys.flatMap enc, u.oneCell' = true := by
  intro u hm
  obtain ⟨x, _, hx⟩ := List.mem_flatMap.1 hm
  exact h1 x u hx
 cases hA : A with
 | none =>
  have h0 : ys = [] := by
   cases ys with
   | nil => rfl
   | cons y r =>
    obtain ⟨b, off, h, _⟩ := hh (by simp)
    rw [hA] at h
    cases h
  subst h0
  exact ⟨v, w, append_of_none w base t ty e i ht hi v n xs hown c, by simpa using hown, World.grownBy.refl w _, .inl rfl⟩
 | some a =>
  have hn : ∀ j u, (ys.flatMap enc)[j]? = some u → w.cell? (a.add j) = some u := by
   intro j u hj
   obtain ⟨i', j', x, hx, hj', rfl⟩ := flat_inv hu ys j u hj
   obtain ⟨b, off, hA', hb, hcell⟩ := hh (by
    have := (List.getElem?_eq_some_iff.1 hx).1
    omega)
   rw [hA] at hA'
   cases hA'
   rw [addr_add, ← Nat.add_assoc]
   exact hcell i' x hx j' u hj'
  obtain ⟨v', w', hrun, h2, h3, _, h5⟩ := run_append_own_at (P := P) w base t ty e i z size bytes ht hi hz hsize hby hzs hsz v n xs hown a ys.length c (ys.flatMap enc) (flat_len hu ys) hn h1' h63 hbytes hbase
  exact ⟨v', w', hrun, h2, h3, h5⟩
end

section
variable {α : Type} {enc : α → List Value} {P : Program} {w : World}
theorem wp_append_rd {o : Oper} {a : Act} {K : Act → World → Prop} {Q : Exit → Act → World → Prop} (s x : Operand) (t : TypeId)
  (ho : o.op = .call { callee := .builtin .append, args := #[s, x], argTypes := #[t, t] })
  (base : Nat) (e : TypeId) (i : TypeInfo) (z : Value) (size bytes : Nat) (hu : ∀ x, (enc x).length = size) (h1 : ∀ x, ∀ u ∈ enc x, u.oneCell' = true)
  (ht : P.underlying t = some (.slice e)) (hi : P.info? e = some i) (hz : i.zero = some z)
  (hsize : i.size = size) (hby : i.bytes = bytes) (hzs : z.cells.size = size) (hsz : 0 < size)
  (v : Value) (n : Nat) (xs : List Value) (hs : a.eval s = v) (hown : w.ownsRow base e size v n xs) (B : Nat) (sv : Value) (ys : List α) (hx : a.eval x = sv) (hr : RdS w B size enc sv ys)
  (h63 : n + ys.length ≤ maxLen) (hbytes : (n + ys.length) * bytes ≤ 140737488355328) (hbase : base ≤ w.heap.size)
  (h : ∀ v' w', w'.ownsRow base e size v' (n + ys.length) (xs ++ ys.flatMap enc) → w.grownBy w' v.ownBlock → (v'.ownBlock = v.ownBlock ∨ v'.ownBlock = some w.heap.size) → K (a.put o.dst v') w') : o.wp P a w K Q := by
 obtain ⟨v', w', hrun, h2, h3, h4⟩ := run_append_rd (P := P) w base t o.type e i z size bytes hu h1 ht hi hz hsize hby hzs hsz v n xs hown B sv ys hr h63 hbytes hbase
 unfold Oper.wp execOp
 simp only [ho, resolve, invoke, builtin, Sem.run_bind, Sem.run_pure, Result.andThen_ok, List.map_toArray, List.map_cons, List.map_nil, hs, hx, hrun]
 exact h v' w' h2 h3 h4

theorem below_own_grown {B : Nat} {a w' : World} {base : Nat} {e : TypeId} {size n : Nat} {v : Value} {xs : List Value} (hb : Below B a w) (hg : w.grownBy w' v.ownBlock) (h : w.ownsRow base e size v n xs) (hB : B ≤ base) (hB' : B ≤ w.heap.size) : Below B a w' :=
 hb.grown hg hB' fun k hk => Nat.le_trans hB (h.lt k hk).1
end

theorem len_int (e : Int) : (encInt e).length = 1 := rfl
theorem one_int (e : Int) : ∀ u ∈ encInt e, u.oneCell' = true := by intro u hu; simp [encInt] at hu; subst hu; rfl




theorem info_int : (Tryz.prog.info? 3).map (fun i => (i.zero, i.size, i.bytes)) = some (some (.int .i64 0), 1, 8) := by kernel_rfl
end Go.Proofs.YtenmkbpdkfhbjaaGreat
namespace Go.Proofs.YtenmkbpdkfhbjaaGreat
open Go.RowKit

def dn (d : Array Bool) (j : Nat) : Prop := d.getD j false = true
theorem dn_of {d : Array Bool} {i j : Nat} (hi : i < d.size) (h : dn (d.setIfInBounds i true) j) (hne : j ≠ i) : dn d j :=
 ((getD_set hi).1 h).resolve_left hne

theorem dn_up {d : Array Bool} {i j : Nat} (h : dn d j) : dn (d.setIfInBounds i true) j := by
 by_cases hi : i < d.size
 ·exact (getD_set hi).2 (.inr h)
 ·unfold dn at *; rwa [Array.setIfInBounds_eq_of_size_le (by omega)]
theorem own_form {w : World} {base : Nat} {e : TypeId} {size n : Nat} {v : Value} {xs : List Value} (h : w.ownsRow base e size v n xs) : ∃ A c, v = .slice A n c := by
 rcases h.2 with ⟨rfl, rfl⟩ | ⟨g, cap, cur, rfl, _⟩
 ·exact ⟨_, _, rfl⟩
 ·exact ⟨_, _, rfl⟩
theorem not_dn {d : Array Bool} {i : Nat} (hi : i < d.size) (h : d.getD i true = false) : ¬ dn d i := by
 unfold dn; simp [Array.getD, hi] at h ⊢; simpa using h
theorem dn_self {d : Array Bool} {i : Nat} (hi : i < d.size) : dn (d.setIfInBounds i true) i := (getD_set hi).2 (.inl rfl)



section
variable {w : World} {v0 v1 v2 : Value} {x : Lx.Lexicon}


end
end Go.Proofs.YtenmkbpdkfhbjaaGreat
namespace Go.Proofs.YtenmkbpdkfhbjaaGreat
open Go.RowKit

def RetB (b : Bool) (w : World) (e : Ending) (w' : World) : Prop := e = .returned (.bool b) ∧ w = w'




theorem r1between_any (c lo hi : Int) (w : World) : Calls Tryz.prog 86 #[.int .u8 c, .int .u8 lo, .int .u8 hi] w (RetB (decide (lo ≤ c) && decide (c ≤ hi)) w) := by
 go_enter Tryz.func86, Tryz.ntmps86
 go_wp2
 ·go_ret
  exact ⟨by simp [*] <;> omega, rfl⟩
 ·go_ret
  exact ⟨by simp [*] <;> omega, rfl⟩

theorem take_succ_all (p : UInt8 → Bool) (s : ByteArray) (k : Nat) (h : k < s.size) : (s.data.toList.take (k + 1)).all p = ((s.data.toList.take k).all p && p s[k]) := by
 rw [List.take_succ_eq_append_getElem (by simpa using h), List.all_append]
 simp
 rfl

theorem not_all_of (p : UInt8 → Bool) (s : ByteArray) (k : Nat) (h : k < s.size) (hp : p s[k] = false) : s.data.toList.all p = false := by
 rw [List.all_eq_false]
 exact ⟨s[k], by simp [ByteArray.getElem_eq_getElem_data], by simp [hp]⟩

theorem ret_bool {a b : Bool} (h : a = b) : Ending.returned (.bool a) = .returned (.bool b) := by rw [h]
theorem ret_int {k : IntKind} {a b : Int} (h : a = b) : Ending.returned (.int k a) = .returned (.int k b) := by rw [h]

theorem letter_in (c : UInt8) : Lx.letter c = ((decide ((97 : Int) ≤ (c.toNat : Int)) && decide ((c.toNat : Int) ≤ 122)) || (decide ((65 : Int) ≤ (c.toNat : Int)) && decide ((c.toNat : Int) ≤ 90))) := by
 rw [Bool.eq_iff_iff]; simp [Lx.letter, UInt8.le_iff_toNat_le]; omega
theorem small_in (c : UInt8) : Lx.small c = (decide ((97 : Int) ≤ (c.toNat : Int)) && decide ((c.toNat : Int) ≤ 122)) := by
 rw [Bool.eq_iff_iff]; simp [Lx.small, UInt8.le_iff_toNat_le]; omega

theorem r1Sounds_any (s : ByteArray) (w : World) (hs : s.size ≤ maxLen) : Calls Tryz.prog 108 #[.string s] w (RetB (Lx.allL s) w) := by
 unfold maxLen at hs
 go_enter Tryz.func108, Tryz.ntmps108
 go_wp2
 go_loop [3] (fun i => ∃ k : Nat, k ≤ s.size ∧ i = .int .i64 k ∧ (s.data.toList.take k).all Lx.letter = true) (fun i => s.size - (intOf i).toNat)
 case atStart => exact ⟨0, Nat.zero_le _, rfl, rfl⟩
 case round =>
  obtain ⟨k, hk, rfl, hal⟩ := hrel
  have HAL := Lib.hid hal
  clear hal
  by_cases hlt : k < s.size
  ·have HL := Lib.hid (letter_in s[k])
   cases h1 : (decide ((97 : Int) ≤ (s[k].toNat : Int)) && decide ((s[k].toNat : Int) ≤ 122))
   ·cases h2 : (decide ((65 : Int) ≤ (s[k].toNat : Int)) && decide ((s[k].toNat : Int) ≤ 90))
    ·have HN := Lib.hid (not_all_of Lx.letter s k hlt (by rw [HL.out, h1, h2]; rfl))
     have H1 := Lib.hid h1
     have H2 := Lib.hid h2
     clear h1 h2
     go_wp2_with fail
     refine (r1between_any _ _ _ _).mono ?_
     rw [H1.out]
     rintro e w' ⟨rfl, rfl⟩
     go_wp2_with fail
     refine (r1between_any _ _ _ _).mono ?_
     rw [H2.out]
     rintro e w' ⟨rfl, rfl⟩
     go_wp2_with fail
     go_ret
     exact ⟨ret_bool HN.out.symm, rfl⟩
    ·have HN := Lib.hid (take_succ_all Lx.letter s k hlt)
     have H1 := Lib.hid h1
     have H2 := Lib.hid h2
     clear h1 h2
     go_wp2_with fail
     refine (r1between_any _ _ _ _).mono ?_
     rw [H1.out]
     rintro e w' ⟨rfl, rfl⟩
     go_wp2_with fail
     refine (r1between_any _ _ _ _).mono ?_
     rw [H2.out]
     rintro e w' ⟨rfl, rfl⟩
     go_wp2_with fail
     go_round
     case rel => exact ⟨k + 1, by omega, by go_num, by rw [HN.out, HAL.out, HL.out, H1.out, H2.out]; rfl⟩
     case measure => simp [intOf]; omega
   ·have HN := Lib.hid (take_succ_all Lx.letter s k hlt)
    have H1 := Lib.hid h1
    clear h1
    go_wp2_with fail
    refine (r1between_any _ _ _ _).mono ?_
    rw [H1.out]
    rintro e w' ⟨rfl, rfl⟩
    go_wp2_with fail
    go_round
    case rel => exact ⟨k + 1, by omega, by go_num, by rw [HN.out, HAL.out, HL.out, H1.out]; rfl⟩
    case measure => simp [intOf]; omega
  ·go_wp2_with fail
   go_ret
   have := HAL.out
   rw [List.take_of_length_le (by simp; omega)] at this
   exact ⟨ret_bool (by rw [Lx.allL, this]), rfl⟩

def RetBB (b : Bool) (w : World) (e : Ending) (w' : World) : Prop := e = .returned (.bool b) ∧ Below w.heap.size w w'


theorem r1Small_any (s : ByteArray) (w : World) (hs : s.size ≤ maxLen) : Calls Tryz.prog 107 #[.string s] w (RetB (Lx.allS s) w) := by
 unfold maxLen at hs
 go_enter Tryz.func107, Tryz.ntmps107
 go_wp2
 go_loop [3] (fun i => ∃ k : Nat, k ≤ s.size ∧ i = .int .i64 k ∧ (s.data.toList.take k).all Lx.small = true) (fun i => s.size - (intOf i).toNat)
 case atStart => exact ⟨0, Nat.zero_le _, rfl, rfl⟩
 case round =>
  obtain ⟨k, hk, rfl, hal⟩ := hrel
  have HAL := Lib.hid hal
  clear hal
  by_cases hlt : k < s.size
  ·have HL := Lib.hid (small_in s[k])
   cases h1 : (decide ((97 : Int) ≤ (s[k].toNat : Int)) && decide ((s[k].toNat : Int) ≤ 122))
   ·have HN := Lib.hid (not_all_of Lx.small s k hlt (by rw [HL.out, h1]))
    have H1 := Lib.hid h1
    clear h1
    go_wp2_with fail
    refine (r1between_any _ _ _ _).mono ?_
    rw [H1.out]
    rintro e w' ⟨rfl, rfl⟩
    go_wp2_with fail
    go_ret
    exact ⟨ret_bool HN.out.symm, rfl⟩
   ·have HN := Lib.hid (take_succ_all Lx.small s k hlt)
    have H1 := Lib.hid h1
    clear h1
    go_wp2_with fail
    refine (r1between_any _ _ _ _).mono ?_
    rw [H1.out]
    rintro e w' ⟨rfl, rfl⟩
    go_wp2_with fail
    go_round
    case rel => exact ⟨k + 1, by omega, by go_num, by rw [HN.out, HAL.out, HL.out, H1.out]; rfl⟩
    case measure => simp [intOf]; omega
  ·go_wp2_with fail
   go_ret
   have := HAL.out
   rw [List.take_of_length_le (by simp; omega)] at this
   exact ⟨ret_bool (by rw [Lx.allS, this]), rfl⟩







end Go.Proofs.YtenmkbpdkfhbjaaGreat
