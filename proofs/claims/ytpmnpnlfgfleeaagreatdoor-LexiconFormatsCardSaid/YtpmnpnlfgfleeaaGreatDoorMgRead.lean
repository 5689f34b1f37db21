/- All matches of a line: plain notions. Forms with given sounds: plain notions. How data lie in memory. -/
import Derived.Test.YtpmnpnlfgfleeaaGreatDoorMgMatchPlain
import Derived.Test.YtpmnpnlfgfleeaaGreatDoorProg
import Derived.WalkKit
import Derived.WalkLawsBesides
import Derived.WalkSpells
import Derived.Lib.Hide
import Derived.Test.YtpmnpnlfgfleeaaGreatDoorMgGlossPlain
namespace Lx
/-- is the q-th ending (0: none) of another kind than the entry? -/
def skipB (x : Lexicon) (e : Entry) (q : Nat) : Bool := decide (0 < q) && (match x.endings[q - 1]? with
  | some g => decide (g.kind ≠ e.kind)
  | none => false)
/-- the forms of entry i with the q-th ending (0: none) whose sounds begin s -/
def matchesQ (x : Lexicon) (s : ByteArray) (i : Nat) (e : Entry) (q : Nat) : List Match :=
  if skipB x e q = true then []
  else if pre s 0 (stemV x ⟨(i : Int), (q : Int) - 1, []⟩) then leanF x s 3 ⟨(i : Int), (q : Int) - 1, [], (stemV x ⟨(i : Int), (q : Int) - 1, []⟩).size⟩ 0 else []
def matchesTo (x : Lexicon) (s : ByteArray) (i : Nat) (e : Entry) (n : Nat) : List Match := (List.range n).flatMap (matchesQ x s i e)
def matchesE (x : Lexicon) (s : ByteArray) (i : Nat) : List Match := match x.entries[i]? with
  | some e => if pre s 0 e.root then matchesTo x s i e (x.endings.length + 1) else []
  | none => []
def matchesN (x : Lexicon) (s : ByteArray) (n : Nat) : List Match := (List.range n).flatMap (matchesE x s)
def matchesV (x : Lexicon) (s : ByteArray) : List Match := matchesN x s x.entries.length
theorem matchesTo_zero (x : Lexicon) (s : ByteArray) (i : Nat) (e : Entry) : matchesTo x s i e 0 = [] := rfl
theorem matchesTo_succ (x : Lexicon) (s : ByteArray) (i : Nat) (e : Entry) (n : Nat) : matchesTo x s i e (n + 1) = matchesTo x s i e n ++ matchesQ x s i e n := by
  simp [matchesTo, List.range_succ, List.flatMap_append]
theorem matchesN_zero (x : Lexicon) (s : ByteArray) : matchesN x s 0 = [] := rfl
theorem matchesN_succ (x : Lexicon) (s : ByteArray) (n : Nat) : matchesN x s (n + 1) = matchesN x s n ++ matchesE x s n := by
  simp [matchesN, List.range_succ, List.flatMap_append]
theorem matchesE_yes {x : Lexicon} {s : ByteArray} {i : Nat} {e : Entry} (he : x.entries[i]? = some e) (hp : pre s 0 e.root = true) : matchesE x s i = matchesTo x s i e (x.endings.length + 1) := by
  simp [matchesE, he, hp]
theorem matchesE_no {x : Lexicon} {s : ByteArray} {i : Nat} {e : Entry} (he : x.entries[i]? = some e) (hp : pre s 0 e.root = false) : matchesE x s i = [] := by
  simp [matchesE, he, hp]
theorem matchesQ_len (x : Lexicon) (s : ByteArray) (hn : x.clitics.length ≤ 10) (i : Nat) (e : Entry) (q : Nat) : (matchesQ x s i e q).length ≤ 1331 := by
  unfold matchesQ
  split
  · simp
  · split
    · exact leanF_len x s hn 3 _ _
    · simp
theorem matchesTo_len (x : Lexicon) (s : ByteArray) (hn : x.clitics.length ≤ 10) (i : Nat) (e : Entry) (n : Nat) : (matchesTo x s i e n).length ≤ n * 1331 := by
  have := flatMap_len (f := matchesQ x s i e) (B := 1331) (List.range n) (fun q _ => matchesQ_len x s hn i e q)
  rwa [List.length_range] at this
theorem matchesE_len (x : Lexicon) (s : ByteArray) (hn : x.clitics.length ≤ 10) (hm : x.endings.length ≤ 40) (i : Nat) : (matchesE x s i).length ≤ 54571 := by
  unfold matchesE
  split
  · split
    · have := matchesTo_len x s hn i ‹_› (x.endings.length + 1); omega
    · simp
  · simp
theorem matchesN_len (x : Lexicon) (s : ByteArray) (hn : x.clitics.length ≤ 10) (hm : x.endings.length ≤ 40) (n : Nat) : (matchesN x s n).length ≤ n * 54571 := by
  have := flatMap_len (f := matchesE x s) (B := 54571) (List.range n) (fun q _ => matchesE_len x s hn hm q)
  rwa [List.length_range] at this
theorem tooMany_no {x : Lexicon} (h : tooMany x = false) : x.entries.length ≤ 200 ∧ x.endings.length ≤ 40 ∧ x.clitics.length ≤ 10 := by
  simp [tooMany] at h; omega
def skipP (x : Lexicon) (e : Entry) (p : Int) : Bool := decide (0 ≤ p) && (match x.endings[p.toNat]? with
  | some g => decide (g.kind ≠ e.kind)
  | none => false)
theorem skipP_eq (x : Lexicon) (e : Entry) {p : Int} (h : -1 ≤ p) : skipB x e (p + 1).toNat = skipP x e p := by
  unfold skipB skipP
  rw [show (p + 1).toNat - 1 = p.toNat by omega, show decide (0 < (p + 1).toNat) = decide (0 ≤ p) by simp; omega]
theorem matchesTo_next {x : Lexicon} {s : ByteArray} {i : Nat} {e : Entry} {p : Int} (h : -1 ≤ p) : matchesTo x s i e (p + 1 + 1).toNat = matchesTo x s i e (p + 1).toNat ++ matchesQ x s i e (p + 1).toNat := by
  rw [show (p + 1 + 1).toNat = (p + 1).toNat + 1 by omega, matchesTo_succ]
theorem matchesQ_skip {x : Lexicon} {s : ByteArray} {i : Nat} {e : Entry} {p : Int} (h : -1 ≤ p) (hs : skipP x e p = true) : matchesQ x s i e (p + 1).toNat = [] := by
  rw [matchesQ, skipP_eq x e h, if_pos hs]
theorem matchesQ_no {x : Lexicon} {s : ByteArray} {i : Nat} {e : Entry} {p : Int} (h : -1 ≤ p) (hs : skipP x e p = false) (hp : pre s 0 (stemV x ⟨(i : Int), p, []⟩) = false) : matchesQ x s i e (p + 1).toNat = [] := by
  rw [matchesQ, skipP_eq x e h, if_neg (by simp [hs]), show (((p + 1).toNat : Nat) : Int) - 1 = p by omega, if_neg (by simp [hp])]
theorem matchesQ_yes {x : Lexicon} {s : ByteArray} {i : Nat} {e : Entry} {p : Int} (h : -1 ≤ p) (hs : skipP x e p = false) (hp : pre s 0 (stemV x ⟨(i : Int), p, []⟩) = true) : matchesQ x s i e (p + 1).toNat = leanF x s 3 ⟨(i : Int), p, [], (stemV x ⟨(i : Int), p, []⟩).size⟩ 0 := by
  rw [matchesQ, skipP_eq x e h, if_neg (by simp [hs]), show (((p + 1).toNat : Nat) : Int) - 1 = p by omega, if_pos hp]
end Lx
namespace Lx
/-- the lists of clitics that go on from a list and whose texts are t, one after the other -/
def tailsV (x : Lexicon) : Nat → List Int → Nat → List UInt8 → List (List Int)
  | 0, begun, _, t => if t = [] then [begun] else []
  | k + 1, begun, first, t => if t = [] then [begun] else (List.range' first (x.clitics.length - first)).flatMap fun c => match x.clitics[c]? with
      | some g => if g.text.data.toList.isPrefixOf t then tailsV x k (begun ++ [(c : Int)]) (c + 1) (t.drop g.text.size) else []
      | none => []
def tailC (x : Lexicon) (k : Nat) (begun : List Int) (t : List UInt8) (c : Nat) : List (List Int) := match x.clitics[c]? with
  | some g => if g.text.data.toList.isPrefixOf t then tailsV x k (begun ++ [(c : Int)]) (c + 1) (t.drop g.text.size) else []
  | none => []
def tailsTo (x : Lexicon) (k : Nat) (begun : List Int) (t : List UInt8) (first j : Nat) : List (List Int) := (List.range' first (j - first)).flatMap (tailC x k begun t)
theorem tailsV_nil (x : Lexicon) (k : Nat) (begun : List Int) (first : Nat) : tailsV x k begun first [] = [begun] := by
  cases k <;> simp [tailsV]
theorem tailsV_zero {x : Lexicon} {begun : List Int} {first : Nat} {t : List UInt8} (h : t ≠ []) : tailsV x 0 begun first t = [] := by simp [tailsV, h]
theorem tailsV_succ {x : Lexicon} {k : Nat} {begun : List Int} {first : Nat} {t : List UInt8} (h : t ≠ []) : tailsV x (k + 1) begun first t = tailsTo x k begun t first x.clitics.length := by
  rw [tailsV, if_neg h]; rfl
theorem tailsTo_self (x : Lexicon) (k : Nat) (begun : List Int) (t : List UInt8) (first : Nat) : tailsTo x k begun t first first = [] := by simp [tailsTo]
theorem tailsTo_succ {x : Lexicon} {k : Nat} {begun : List Int} {t : List UInt8} {first j : Nat} (h : first ≤ j) : tailsTo x k begun t first (j + 1) = tailsTo x k begun t first j ++ tailC x k begun t j := by
  unfold tailsTo
  rw [show j + 1 - first = (j - first) + 1 by omega, List.range'_concat, List.flatMap_append]
  simp [show first + (j - first) = j by omega]
theorem tailsV_len (x : Lexicon) (hn : x.clitics.length ≤ 10) : ∀ (k : Nat) (begun : List Int) (first : Nat) (t : List UInt8), (tailsV x k begun first t).length ≤ 11 ^ k
  | 0, begun, first, t => by unfold tailsV; split <;> simp
  | k + 1, begun, first, t => by
    unfold tailsV
    have hp : 0 < 11 ^ k := Nat.pow_pos (by omega)
    split
    · simp only [List.length_singleton, Nat.pow_succ]; omega
    · have h := flatMap_len (B := 11 ^ k) (f := tailC x k begun t) (List.range' first (x.clitics.length - first)) (fun c _ => by
        unfold tailC
        split
        · split
          · exact tailsV_len x hn k _ _ _
          · simp
        · simp)
      rw [List.length_range'] at h
      have h1 : (x.clitics.length - first) * 11 ^ k ≤ 10 * 11 ^ k := Nat.mul_le_mul_right _ (by omega)
      rw [Nat.pow_succ]
      exact Nat.le_trans h (by omega)
theorem tailC_len (x : Lexicon) (hn : x.clitics.length ≤ 10) (k : Nat) (begun : List Int) (t : List UInt8) (c : Nat) : (tailC x k begun t c).length ≤ 11 ^ k := by
  unfold tailC
  split
  · split
    · exact tailsV_len x hn k _ _ _
    · simp
  · simp
theorem tailsTo_len (x : Lexicon) (hn : x.clitics.length ≤ 10) (k : Nat) (begun : List Int) (t : List UInt8) (first j : Nat) : (tailsTo x k begun t first j).length ≤ (j - first) * 11 ^ k := by
  have := flatMap_len (f := tailC x k begun t) (B := 11 ^ k) (List.range' first (j - first)) (fun c _ => tailC_len x hn k begun t c)
  rwa [List.length_range'] at this
end Lx
namespace Go.Proofs.YtpmnpnlfgfleeaaGreatDoor
open Go.RowKit

theorem bcell {B : Nat} {W w1 : World} (hb : Below B W w1) : (∀ b o, b < B → w1.cell? ⟨b, o, none⟩ = W.cell? ⟨b, o, none⟩) ∧ (∀ b o, b < B → w1.frozen? ⟨b, o, none⟩ = W.frozen? ⟨b, o, none⟩) :=
  ⟨fun b o h => hb.cell (p := ⟨b, o, none⟩) h, fun b o h => hb.frozen (p := ⟨b, o, none⟩) h⟩

/-- The slice value v holds the rows of xs (each of 'size' cells), below block B. -/
def RdS {α : Type} (w : World) (B size : Nat) (enc : α → List Value) (v : Value) (xs : List α) : Prop :=
  ∃ A c, v = .slice A xs.length c ∧ xs.length ≤ c ∧ c ≤ 9223372036854775807 ∧
    (0 < xs.length → ∃ b off, A = some ⟨b, off, none⟩ ∧ b < B ∧ ∀ i x, xs[i]? = some x → ∀ j u, (enc x)[j]? = some u → w.cell? ⟨b, off + i * size + j, none⟩ = some u)

section
variable {α : Type} {w w' : World} {B B' size : Nat} {enc : α → List Value} {v : Value} {xs : List α}
theorem RdS.keep (h : RdS w B size enc v xs) (hk : ∀ p : Addr, p.block < B → w'.cell? p = w.cell? p) : RdS w' B size enc v xs := by
  obtain ⟨A, c, hv, hl, hc, hh⟩ := h
  refine ⟨A, c, hv, hl, hc, fun h0 => ?_⟩
  obtain ⟨b, off, hA, hb, hcell⟩ := hh h0
  exact ⟨b, off, hA, hb, fun i x hx j u hu => (hk _ hb).trans (hcell i x hx j u hu)⟩
theorem RdS.below (h : RdS w B size enc v xs) (hb : Below B w w') : RdS w' B size enc v xs := h.keep fun _ hp => hb.cell hp
theorem RdS.more (h : RdS w B size enc v xs) (hB : B ≤ B') : RdS w B' size enc v xs := by
  obtain ⟨A, c, hv, hl, hc, hh⟩ := h
  refine ⟨A, c, hv, hl, hc, fun h0 => ?_⟩
  obtain ⟨b, off, hA, hb, hcell⟩ := hh h0
  exact ⟨b, off, hA, by omega, hcell⟩
end

def encEntry (e : Lx.Entry) : List Value := [.string e.root, .int .i64 e.kind, .string e.cls, .int .i64 e.weight]
def encEnding (e : Lx.Ending) : List Value := [.int .i64 e.kind, .string e.text, .string e.name, .int .i64 e.weight]
def encClitic (e : Lx.Clitic) : List Value := [.string e.text, .string e.name, .int .i64 e.weight]
def encInt (n : Int) : List Value := [.int .i64 n]

/-- strings and numbers within what the machine holds -/
def Lx.Entry.fits (e : Lx.Entry) : Prop := e.root.size ≤ maxLen ∧ e.cls.size ≤ maxLen
def Lx.Ending.fits (e : Lx.Ending) : Prop := e.text.size ≤ maxLen ∧ e.name.size ≤ maxLen
def Lx.Clitic.fits (e : Lx.Clitic) : Prop := e.text.size ≤ maxLen ∧ e.name.size ≤ maxLen

structure RdL (w : World) (B : Nat) (v : Value) (x : Lx.Lexicon) : Prop where
  ex : ∃ v0 v1 v2, v = .agg #[v0, v1, v2] ∧ RdS w B 4 encEntry v0 x.entries ∧ RdS w B 4 encEnding v1 x.endings ∧ RdS w B 3 encClitic v2 x.clitics
  fe : ∀ e ∈ x.entries, Lx.Entry.fits e
  fn : ∀ e ∈ x.endings, Lx.Ending.fits e
  fc : ∀ e ∈ x.clitics, Lx.Clitic.fits e
theorem RdL.keep {w w' : World} {B : Nat} {v : Value} {x : Lx.Lexicon} (h : RdL w B v x) (hk : ∀ p : Addr, p.block < B → w'.cell? p = w.cell? p) : RdL w' B v x := by
  obtain ⟨⟨v0, v1, v2, hv, h0, h1, h2⟩, a, b, c⟩ := h
  exact ⟨⟨v0, v1, v2, hv, h0.keep hk, h1.keep hk, h2.keep hk⟩, a, b, c⟩
theorem RdL.below {w w' : World} {B : Nat} {v : Value} {x : Lx.Lexicon} (h : RdL w B v x) (hb : Below B w w') : RdL w' B v x := h.keep fun _ hp => hb.cell hp
theorem RdL.more {w : World} {B B' : Nat} {v : Value} {x : Lx.Lexicon} (h : RdL w B v x) (hB : B ≤ B') : RdL w B' v x := by
  obtain ⟨⟨v0, v1, v2, hv, h0, h1, h2⟩, a, b, c⟩ := h
  exact ⟨⟨v0, v1, v2, hv, h0.more hB, h1.more hB, h2.more hB⟩, a, b, c⟩
/-- a form -/
structure RdF (w : World) (B : Nat) (v : Value) (f : Lx.Form) : Prop where
  ex : ∃ s, v = .agg #[.int .i64 f.entry, .int .i64 f.ending, s] ∧ RdS w B 1 encInt s f.clitics
theorem RdF.keep {w w' : World} {B : Nat} {v : Value} {f : Lx.Form} (h : RdF w B v f) (hk : ∀ p : Addr, p.block < B → w'.cell? p = w.cell? p) : RdF w' B v f := by
  obtain ⟨⟨s, hv, h0⟩⟩ := h
  exact ⟨⟨s, hv, h0.keep hk⟩⟩
theorem RdF.below {w w' : World} {B : Nat} {v : Value} {f : Lx.Form} (h : RdF w B v f) (hb : Below B w w') : RdF w' B v f := h.keep fun _ hp => hb.cell hp
theorem RdF.more {w : World} {B B' : Nat} {v : Value} {f : Lx.Form} (h : RdF w B v f) (hB : B ≤ B') : RdF w B' v f := by
  obtain ⟨⟨s, hv, h0⟩⟩ := h
  exact ⟨⟨s, hv, h0.more hB⟩⟩
end Go.Proofs.YtpmnpnlfgfleeaaGreatDoor
