/- Plain notions of the lexicon: no program in sight. How data lie in memory. A region that draws its order: one invariant over 'what has been done' serves every order. -/
import Derived.Test.YtpmnpnlfgfleeaaGreatDoorProg
import Derived.WalkKit
import Derived.WalkLawsBesides
import Derived.WalkSpells
import Derived.Lib.Hide
namespace Lx
/-- letters a..z, A..Z -/
def letter (c : UInt8) : Bool := (97 ≤ c && c ≤ 122) || (65 ≤ c && c ≤ 90)
def small (c : UInt8) : Bool := 97 ≤ c && c ≤ 122
def allL (s : ByteArray) : Bool := s.data.toList.all letter
def allS (s : ByteArray) : Bool := s.data.toList.all small
def soundsB (s : ByteArray) (most : Int) : Bool := decide (1 ≤ s.size) && decide ((s.size : Int) ≤ most) && allL s
def nameB (s : ByteArray) : Bool := decide (1 ≤ s.size) && decide (s.size ≤ 8) && allS s

structure Entry where
  root : ByteArray
  kind : Int
  cls : ByteArray
  weight : Int
structure Ending where
  kind : Int
  text : ByteArray
  name : ByteArray
  weight : Int
structure Clitic where
  text : ByteArray
  name : ByteArray
  weight : Int
structure Lexicon where
  entries : List Entry
  endings : List Ending
  clitics : List Clitic
structure Form where
  entry : Int
  ending : Int
  clitics : List Int

def withinB (n lo hi : Int) : Bool := decide (lo ≤ n) && decide (n ≤ hi)

def Entry.ok (e : Entry) : Bool := soundsB e.root 8 && withinB e.kind 1 9 && (e.cls.toList.isEmpty || nameB e.cls) && withinB e.weight 0 1000
def Entry.same (a b : Entry) : Bool := decide (a.root.toList = b.root.toList) && decide (a.kind = b.kind) && decide (a.cls.toList = b.cls.toList)
def Ending.ok (e : Ending) : Bool := withinB e.kind 1 9 && soundsB e.text 4 && nameB e.name && withinB e.weight 0 1000
def Ending.same (a b : Ending) : Bool := decide (a.kind = b.kind) && decide (a.name.toList = b.name.toList)
def Clitic.ok (e : Clitic) : Bool := soundsB e.text 4 && nameB e.name && withinB e.weight 0 1000
def Clitic.same (a b : Clitic) : Bool := decide (a.name.toList = b.name.toList)

section
variable {α : Type} (ok : α → Bool) (same : α → α → Bool) (xs : List α)
/-- the i-th one is right and like none before it -/
def okAt (i : Nat) : Bool := match xs[i]? with
  | none => true
  | some x => ok x && !((xs.take i).any fun y => same y x)
def good : Bool := (List.range xs.length).all (okAt ok same xs)
variable {ok same xs}
theorem good_of (h : ∀ j, j < xs.length → okAt ok same xs j = true) : good ok same xs = true := by
  simp only [good, List.all_eq_true, List.mem_range]; exact h
theorem not_good_of {j : Nat} (h : okAt ok same xs j = false) : good ok same xs = false := by
  rw [good, List.all_eq_false]
  refine ⟨j, ?_, by simp [h]⟩
  rw [List.mem_range]
  unfold okAt at h
  split at h
  · cases h
  · rename_i x hx
    exact (List.getElem?_eq_some_iff.1 hx).1
theorem okAt_bad {j : Nat} {x : α} (hx : xs[j]? = some x) (h : ok x = false) : okAt ok same xs j = false := by
  simp [okAt, hx, h]
theorem okAt_dup {j k : Nat} {x y : α} (hx : xs[j]? = some x) (hk : k < j) (hy : xs[k]? = some y) (h : same y x = true) : okAt ok same xs j = false := by
  simp only [okAt, hx, Bool.and_eq_false_imp]
  intro _
  simp only [Bool.not_eq_false', List.any_eq_true]
  refine ⟨y, ?_, h⟩
  obtain ⟨hl, rfl⟩ := List.getElem?_eq_some_iff.1 hy
  exact List.mem_take_iff_getElem.2 ⟨k, by omega, rfl⟩
theorem okAt_good {j : Nat} {x : α} (hx : xs[j]? = some x) (h : ok x = true) (hs : ∀ k y, k < j → xs[k]? = some y → same y x = false) : okAt ok same xs j = true := by
  simp only [okAt, hx, h, Bool.true_and, Bool.not_eq_true', List.any_eq_false]
  intro y hy
  obtain ⟨k, hk, rfl⟩ := List.mem_take_iff_getElem.1 hy
  have := hs k (xs[k]'(by omega)) (by omega) (List.getElem?_eq_getElem (by omega))
  simp [this]
theorem to_succ {p : Nat → Prop} {k : Nat} (h : ∀ j, j < k → p j) (hk : p k) : ∀ j, j < k + 1 → p j := by
  intro j hj
  by_cases e : j = k
  · subst e; exact hk
  · exact h j (by omega)
end

def tooMany (x : Lexicon) : Bool := decide (200 < x.entries.length) || decide (40 < x.endings.length) || decide (10 < x.clitics.length)
def checkV (x : Lexicon) : Int :=
  if tooMany x then 2 else if good Entry.ok Entry.same x.entries = false then 45 else if good Ending.ok Ending.same x.endings = false then 46
  else if good Clitic.ok Clitic.same x.clitics = false then 47 else 0

/-- the ending of a form is one, and of the entry's kind -/
def endOK (x : Lexicon) (f : Form) : Bool :=
  decide (f.ending = -1) || (withinB f.ending 0 ((x.endings.length : Int) - 1) && (match x.endings[f.ending.toNat]?, x.entries[f.entry.toNat]? with
    | some g, some e => decide (g.kind = e.kind)
    | _, _ => false))
/-- clitics ascend from 'last' on, each below n -/
def clitOK (n : Int) : Int → List Int → Bool
  | _, [] => true
  | last, c :: r => decide (last < c) && (decide (c < n) && clitOK n c r)
def formV (x : Lexicon) (f : Form) : Int :=
  if checkV x ≠ 0 then checkV x else if withinB f.entry 0 ((x.entries.length : Int) - 1) = false then 45 else if endOK x f = false then 46
  else if 3 < f.clitics.length then 47 else if clitOK x.clitics.length (-1) f.clitics = false then 47 else 0

theorem checkV_45 {x : Lexicon} (h : tooMany x = false) (h1 : good Entry.ok Entry.same x.entries = false) : checkV x = 45 := by simp [checkV, h, h1]
theorem checkV_46 {x : Lexicon} (h : tooMany x = false) (h1 : good Entry.ok Entry.same x.entries = true) (h2 : good Ending.ok Ending.same x.endings = false) : checkV x = 46 := by simp [checkV, h, h1, h2]
theorem checkV_47 {x : Lexicon} (h : tooMany x = false) (h1 : good Entry.ok Entry.same x.entries = true) (h2 : good Ending.ok Ending.same x.endings = true) (h3 : good Clitic.ok Clitic.same x.clitics = false) : checkV x = 47 := by simp [checkV, h, h1, h2, h3]
theorem checkV_0 {x : Lexicon} (h : tooMany x = false) (h1 : good Entry.ok Entry.same x.entries = true) (h2 : good Ending.ok Ending.same x.endings = true) (h3 : good Clitic.ok Clitic.same x.clitics = true) : checkV x = 0 := by simp [checkV, h, h1, h2, h3]
theorem checkV_2 {x : Lexicon} (h : tooMany x = true) : checkV x = 2 := by simp [checkV, h]
theorem formV_45 {x : Lexicon} {f : Form} (h0 : checkV x = 0) (h1 : withinB f.entry 0 ((x.entries.length : Int) - 1) = false) : formV x f = 45 := by simp [formV, h0, h1]
theorem formV_46 {x : Lexicon} {f : Form} (h0 : checkV x = 0) (h1 : withinB f.entry 0 ((x.entries.length : Int) - 1) = true) (h2 : endOK x f = false) : formV x f = 46 := by simp [formV, h0, h1, h2]
theorem formV_47a {x : Lexicon} {f : Form} (h0 : checkV x = 0) (h1 : withinB f.entry 0 ((x.entries.length : Int) - 1) = true) (h2 : endOK x f = true) (h3 : 3 < f.clitics.length) : formV x f = 47 := by simp [formV, h0, h1, h2, h3]
theorem formV_47b {x : Lexicon} {f : Form} (h0 : checkV x = 0) (h1 : withinB f.entry 0 ((x.entries.length : Int) - 1) = true) (h2 : endOK x f = true) (h3 : ¬ 3 < f.clitics.length) (h4 : clitOK x.clitics.length (-1) f.clitics = false) : formV x f = 47 := by simp [formV, h0, h1, h2, h3, h4]
theorem formV_0 {x : Lexicon} {f : Form} (h0 : checkV x = 0) (h1 : withinB f.entry 0 ((x.entries.length : Int) - 1) = true) (h2 : endOK x f = true) (h3 : ¬ 3 < f.clitics.length) (h4 : clitOK x.clitics.length (-1) f.clitics = true) : formV x f = 0 := by simp [formV, h0, h1, h2, h3, h4]
theorem endOK_none {x : Lexicon} {f : Form} (h : f.ending = -1) : endOK x f = true := by simp [endOK, h]
theorem endOK_out {x : Lexicon} {f : Form} (h : ¬ f.ending = -1) (h2 : withinB f.ending 0 ((x.endings.length : Int) - 1) = false) : endOK x f = false := by simp [endOK, h, h2]
theorem endOK_in {x : Lexicon} {f : Form} {g : Ending} {e : Entry} (h : ¬ f.ending = -1) (h2 : withinB f.ending 0 ((x.endings.length : Int) - 1) = true) (hg : x.endings[f.ending.toNat]? = some g) (he : x.entries[f.entry.toNat]? = some e) : endOK x f = decide (g.kind = e.kind) := by
  simp [endOK, h, h2, hg, he]
theorem within_iff {n lo hi : Int} : withinB n lo hi = true ↔ lo ≤ n ∧ n ≤ hi := by simp [withinB]
def bigE (e : Entry) : Bool := decide (100 < e.root.size) || decide (100 < e.cls.size)
def bigN (e : Ending) : Bool := decide (100 < e.text.size) || decide (100 < e.name.size)
def bigC (e : Clitic) : Bool := decide (100 < e.text.size) || decide (100 < e.name.size)
def bigV (x : Lexicon) : Bool := decide (210 < x.entries.length) || decide (50 < x.endings.length) || decide (15 < x.clitics.length) || x.entries.any bigE || x.endings.any bigN || x.clitics.any bigC
end Lx
namespace Go.Proofs.YtpmnpnlfgfleeaaGreatDoor
open Go.RowKit

theorem bcell {B : Nat} {W w1 : World} (hb : Below B W w1) : (∀ b o, b < B → w1.cell? ⟨b, o, none⟩ = W.cell? ⟨b, o, none⟩) ∧ (∀ b o, b < B → w1.frozen? ⟨b, o, none⟩ = W.frozen? ⟨b, o, none⟩) :=
  ⟨fun b o h => hb.cell (p := ⟨b, o, none⟩) h, fun b o h => hb.frozen (p := ⟨b, o, none⟩) h⟩

/-- The slice value v holds the rows of xs (each of 'size' cells), below block B. -/
def RdS {α : Type} (w : World) (B size : Nat) (enc : α → List Value) (v : Value) (xs : List α) : Prop :=
  ∃ A c, v = .slice A xs.length c ∧ xs.length ≤ c ∧ c ≤ 9223372036854775807 ∧
    (0 < xs.length → ∃ b off, A = some ⟨b, off, none⟩ ∧ b < B ∧ ∀ i x, xs[i]? = some x → ∀ j u, (enc x)[j]? = some u → w.cell? ⟨b, off + i * size + j, none⟩ = some u)

section
variable {α : Type} {w w' : World} {B B' size : Nat} {enc : α → List Value} {v : Value} {xs : List α}
theorem RdS.keep (h : RdS w B size enc v xs) (hk : ∀ p : Addr, p.block < B → w'.cell? p = w.cell? p) : RdS w' B size enc v xs := by
  obtain ⟨A, c, hv, hl, hc, hh⟩ := h
  refine ⟨A, c, hv, hl, hc, fun h0 => ?_⟩
  obtain ⟨b, off, hA, hb, hcell⟩ := hh h0
  exact ⟨b, off, hA, hb, fun i x hx j u hu => (hk _ hb).trans (hcell i x hx j u hu)⟩
theorem RdS.below (h : RdS w B size enc v xs) (hb : Below B w w') : RdS w' B size enc v xs := h.keep fun _ hp => hb.cell hp
theorem RdS.more (h : RdS w B size enc v xs) (hB : B ≤ B') : RdS w B' size enc v xs := by
  obtain ⟨A, c, hv, hl, hc, hh⟩ := h
  refine ⟨A, c, hv, hl, hc, fun h0 => ?_⟩
  obtain ⟨b, off, hA, hb, hcell⟩ := hh h0
  exact ⟨b, off, hA, by omega, hcell⟩
end

def encEntry (e : Lx.Entry) : List Value := [.string e.root, .int .i64 e.kind, .string e.cls, .int .i64 e.weight]
def encEnding (e : Lx.Ending) : List Value := [.int .i64 e.kind, .string e.text, .string e.name, .int .i64 e.weight]
def encClitic (e : Lx.Clitic) : List Value := [.string e.text, .string e.name, .int .i64 e.weight]
def encInt (n : Int) : List Value := [.int .i64 n]

/-- strings and numbers within what the machine holds -/
def Lx.Entry.fits (e : Lx.Entry) : Prop := e.root.size ≤ maxLen ∧ e.cls.size ≤ maxLen
def Lx.Ending.fits (e : Lx.Ending) : Prop := e.text.size ≤ maxLen ∧ e.name.size ≤ maxLen
def Lx.Clitic.fits (e : Lx.Clitic) : Prop := e.text.size ≤ maxLen ∧ e.name.size ≤ maxLen

structure RdL (w : World) (B : Nat) (v : Value) (x : Lx.Lexicon) : Prop where
  ex : ∃ v0 v1 v2, v = .agg #[v0, v1, v2] ∧ RdS w B 4 encEntry v0 x.entries ∧ RdS w B 4 encEnding v1 x.endings ∧ RdS w B 3 encClitic v2 x.clitics
  fe : ∀ e ∈ x.entries, Lx.Entry.fits e
  fn : ∀ e ∈ x.endings, Lx.Ending.fits e
  fc : ∀ e ∈ x.clitics, Lx.Clitic.fits e
theorem RdL.keep {w w' : World} {B : Nat} {v : Value} {x : Lx.Lexicon} (h : RdL w B v x) (hk : ∀ p : Addr, p.block < B → w'.cell? p = w.cell? p) : RdL w' B v x := by
  obtain ⟨⟨v0, v1, v2, hv, h0, h1, h2⟩, a, b, c⟩ := h
  exact ⟨⟨v0, v1, v2, hv, h0.keep hk, h1.keep hk, h2.keep hk⟩, a, b, c⟩
theorem RdL.below {w w' : World} {B : Nat} {v : Value} {x : Lx.Lexicon} (h : RdL w B v x) (hb : Below B w w') : RdL w' B v x := h.keep fun _ hp => hb.cell hp
theorem RdL.more {w : World} {B B' : Nat} {v : Value} {x : Lx.Lexicon} (h : RdL w B v x) (hB : B ≤ B') : RdL w B' v x := by
  obtain ⟨⟨v0, v1, v2, hv, h0, h1, h2⟩, a, b, c⟩ := h
  exact ⟨⟨v0, v1, v2, hv, h0.more hB, h1.more hB, h2.more hB⟩, a, b, c⟩
/-- a form -/
structure RdF (w : World) (B : Nat) (v : Value) (f : Lx.Form) : Prop where
  ex : ∃ s, v = .agg #[.int .i64 f.entry, .int .i64 f.ending, s] ∧ RdS w B 1 encInt s f.clitics
theorem RdF.keep {w w' : World} {B : Nat} {v : Value} {f : Lx.Form} (h : RdF w B v f) (hk : ∀ p : Addr, p.block < B → w'.cell? p = w.cell? p) : RdF w' B v f := by
  obtain ⟨⟨s, hv, h0⟩⟩ := h
  exact ⟨⟨s, hv, h0.keep hk⟩⟩
theorem RdF.below {w w' : World} {B : Nat} {v : Value} {f : Lx.Form} (h : RdF w B v f) (hb : Below B w w') : RdF w' B v f := h.keep fun _ hp => hb.cell hp
theorem RdF.more {w : World} {B B' : Nat} {v : Value} {f : Lx.Form} (h : RdF w B v f) (hB : B ≤ B') : RdF w B' v f := by
  obtain ⟨⟨s, hv, h0⟩⟩ := h
  exact ⟨⟨s, hv, h0.more hB⟩⟩
end Go.Proofs.YtpmnpnlfgfleeaaGreatDoor
namespace Go.Proofs.YtpmnpnlfgfleeaaGreatDoor
open Go Go.RowKit

section
variable {P : Program} {ops : Array Oper} {Q : Exit → Act → World → Prop} {md : Region.Mode}

theorem count_set {l : Array Bool} {i : Nat} (h : l.getD i true = false) : (l.setIfInBounds i true).toList.count false + 1 = l.toList.count false := by
  have hi : i < l.size := by
    rcases Nat.lt_or_ge i l.size with h1 | h1
    · exact h1
    · simp [Array.getD, Nat.not_lt.2 h1] at h
  have hli : l.toList[i]'(by simpa using hi) = false := by
    simp [Array.getD, hi] at h
    simpa using h
  have hp : 0 < l.toList.count false := List.count_pos_iff.2 (by have := List.getElem_mem (l := l.toList) (n := i) (by simpa using hi); rwa [hli] at this)
  rw [Array.toList_setIfInBounds, List.count_set (by simpa using hi), hli]
  simp only [beq_self_eq_true, if_true, show (true == false) = false from rfl, Bool.false_eq_true, if_false]
  omega

theorem mem_ready {l : Array Bool} {i : Nat} (h : i ∈ Region.ready md ops l) : i < ops.size ∧ l.getD i true = false ∧ ∀ o, ops[i]? = some o → ∀ e ∈ o.after, Region.binds md e = true → l.getD e.on false = true := by
  unfold Region.ready at h
  rw [List.mem_filter, List.mem_range] at h
  obtain ⟨h1, h2⟩ := h
  simp only [Bool.and_eq_true, Bool.not_eq_true'] at h2
  refine ⟨h1, h2.1, fun o ho e he hb => ?_⟩
  have h3 := h2.2
  rw [ho] at h3
  simp only [Option.map_some, Option.getD_some] at h3
  have h4 := Array.all_eq_true'.1 h3 e he
  rw [hb] at h4
  simpa using h4

/-- every edge goes to an operation that stands before -/
def tidyOps (ops : Array Oper) : Bool := (List.range ops.size).all fun i => ((ops[i]?).map fun o => o.after.all fun e => decide (e.on < i)).getD true

theorem all_of_ready {l : Array Bool} (ht : tidyOps ops = true) (hs : l.size = ops.size) (h : Region.ready md ops l = []) : ∀ i, i < ops.size → l.getD i true = true := by
  intro i
  induction i using Nat.strongRecOn with
  | _ i ih =>
    intro hi
    by_cases hd : l.getD i true = true
    · exact hd
    · exfalso
      have hm : i ∈ Region.ready md ops l := by
        unfold Region.ready
        rw [List.mem_filter, List.mem_range]
        refine ⟨hi, ?_⟩
        have ho : ops[i]? = some ops[i] := Array.getElem?_eq_getElem hi
        have hd' : l.getD i true = false := by simpa using hd
        rw [hd', ho]
        show (true && _) = true
        rw [Bool.true_and, Option.map_some, Option.getD_some, Array.all_eq_true']
        intro e he
        have hlt : e.on < i := by
          have h1 := List.all_eq_true.1 ht i (List.mem_range.2 hi)
          rw [ho] at h1
          simp only [Option.map_some, Option.getD_some] at h1
          simpa using Array.all_eq_true'.1 h1 e he
        have := ih e.on hlt (by omega)
        have h2 : l.getD e.on false = true := by
          simp [Array.getD, hs, (by omega : e.on < ops.size)] at this ⊢
          exact this
        simp [h2]
      rw [h] at hm
      cases hm

theorem wpAny_inv (I : Array Bool → Act → World → Prop) (ht : tidyOps ops = true)
    (hstep : ∀ l a w i, l.size = ops.size → I l a w → i ∈ Region.ready md ops l → wpOp P ops Q i (I (l.setIfInBounds i true)) a w)
    (hend : ∀ l a w, l.size = ops.size → I l a w → (∀ i, i < ops.size → l.getD i true = true) → Q .normal a w) :
    ∀ (fuel : Nat) (l : Array Bool) (a : Act) (w : World), l.size = ops.size → l.toList.count false ≤ fuel → I l a w → wpAny P md ops Q fuel l a w := by
  intro fuel
  induction fuel with
  | zero =>
    intro l a w hs hc hI
    have hr : Region.ready md ops l = [] := by
      rw [List.eq_nil_iff_forall_not_mem]
      intro i hi
      have := count_set (mem_ready hi).2.1
      omega
    exact ⟨hr, hend l a w hs hI (all_of_ready ht hs hr)⟩
  | succ fuel ih =>
    intro l a w hs hc hI
    refine ⟨fun hr => hend l a w hs hI (all_of_ready ht hs hr), fun i hi => ?_⟩
    have hcs := count_set (mem_ready hi).2.1
    exact wpOp_mono (fun a' w' h' => ih _ a' w' (by simpa using hs) (by omega) h') (hstep l a w i hs hI hi)

theorem wp_region_inv {id : Nat} {l : List Oper} {a : Act} {w : World} {Q : Exit → Act → World → Prop} (I : Array Bool → Act → World → Prop) (hm : P.follows .mixedOrders = true) (ht : tidyOps l.toArray = true)
    (h0 : I (Array.replicate l.length false) a w.drew)
    (hstep : ∀ d a w i, d.size = l.length → I d a w → i ∈ Region.ready .any l.toArray d → wpOp P l.toArray Q i (I (d.setIfInBounds i true)) a w)
    (hend : ∀ d a w, d.size = l.length → I d a w → (∀ i, i < l.length → d.getD i true = true) → Q .normal a w) :
    (Code.region id l.toArray true).wp P Q a w := by
  refine wp_region_any hm ?_
  refine wpAny_inv I ht (fun d a w i hs => hstep d a w i (by simpa using hs)) (fun d a w hs hI hh => hend d a w (by simpa using hs) hI (by simpa using hh)) _ _ _ _ (by simp) ?_ ?_
  · simp
  · simpa using h0

theorem wpOp_plain {i : Nat} {o : Oper} {K : Act → World → Prop} {a : Act} {w : World} (ho : ops[i]? = some o) (hg : o.guard = none) (h : o.wp P a w K Q) : wpOp P ops Q i K a w := by
  unfold wpOp
  rw [ho]
  simp only [Region.wanted, hg, if_true]
  exact .inl h
theorem wpOp_guard {i : Nat} {o : Oper} {K : Act → World → Prop} {a : Act} {w : World} (ho : ops[i]? = some o) (hg : Region.wanted o (yielded ops a.tmps) = true) (h : o.wp P a w K Q) : wpOp P ops Q i K a w := by
  unfold wpOp
  rw [ho]
  simp only [hg, if_true]
  exact .inl h
theorem wanted_of {t : Array Value} {o : Oper} {g d : Nat} {b : Bool} (hg : o.guard = some (g, b)) (hx : (ops[g]?).bind (·.dst) = some d) (h : t[d]? = some (.bool b)) : Region.wanted o (yielded ops t) = true := by
  simp [Region.wanted, hg, yielded, hx, h]
theorem set_same {t : Array Value} {d : Nat} {v : Value} (h : d < t.size) : (t.setIfInBounds d v)[d]? = some v := by simp [h]
theorem set_other {t : Array Value} {d k : Nat} {v : Value} (h : k ≠ d) : (t.setIfInBounds d v)[k]? = t[k]? := by
  simp [Ne.symm h]
theorem getD_set {l : Array Bool} {i j : Nat} (hi : i < l.size) : (l.setIfInBounds i true).getD j false = true ↔ j = i ∨ l.getD j false = true := by
  by_cases h : j = i
  · subst h; simp [Array.getD, hi]
  · have : (l.setIfInBounds i true).getD j false = l.getD j false := by
      by_cases hj : j < l.size
      · simp [Array.getD, hj, Ne.symm h]
      · simp [Array.getD, hj]
    rw [this]
    simp [h]
end
end Go.Proofs.YtpmnpnlfgfleeaaGreatDoor
