/- The program's Gloss. ostraconlaw05.known: the lexicon of the examples. Matches: plain notions. -/
import Derived.Test.YtkmimjngmfdpmaaGreatDoorMgGlossPlain
import Derived.Test.YtkmimjngmfdpmaaGreatDoorMgShelf
import Derived.Lib.Strings
namespace Go.Proofs.YtkmimjngmfdpmaaGreatDoor
open Go.RowKit

def RetSI (s : ByteArray) (n : Int) (w : World) (e : Ending) (w' : World) : Prop := e = .returned (.tuple #[.string s, .int .i64 n]) ∧ Below w.heap.size w w'
theorem ret_si {s t : ByteArray} {a b : Int} (h : s = t) (h' : a = b) : Ending.returned (.tuple #[.string s, .int .i64 a]) = .returned (.tuple #[.string t, .int .i64 b]) := by rw [h, h']


end Go.Proofs.YtkmimjngmfdpmaaGreatDoor
namespace Go.Proofs.YtkmimjngmfdpmaaGreatDoor
open Go.RowKit
def Lx.known : Lx.Lexicon := ⟨[⟨⟨#[110, 102, 114]⟩, 1, ⟨#[103, 111, 111, 100]⟩, 2⟩, ⟨⟨#[110]⟩, 2, ⟨#[]⟩, 1⟩], [⟨1, ⟨#[116]⟩, ⟨#[102, 101, 109]⟩, 1⟩], [⟨⟨#[102]⟩, ⟨#[104, 105, 115]⟩, 1⟩, ⟨⟨#[114]⟩, ⟨#[116, 111]⟩, 0⟩]⟩

theorem rds_block {α : Type} {en : α → List Value} {size : Nat} {w : World} {g c : Nat} {cs : Array Value} {t : TypeId} {fr : Nat × Nat} {B : Nat} {xs : List α} (hu : ∀ x, (en x).length = size) (hh : w.heap[g]? = some (.cells cs t fr)) (hc : cs.toList = xs.flatMap en) (hB : g < B) (hl : xs.length ≤ c) (hm : c ≤ 9223372036854775807) :
    RdS w B size en (.slice (some ⟨g, 0, none⟩) xs.length c) xs := by
  refine ⟨some ⟨g, 0, none⟩, c, rfl, hl, hm, fun _ => ⟨g, 0, rfl, hB, fun i x hx j u hj => ?_⟩⟩
  have h1 := flat_at hu xs i x hx j u hj
  rw [← hc] at h1
  simp only [World.cell?, hh, Option.isSome_none, Bool.false_eq_true, if_false]
  rw [← h1]
  simp [Nat.zero_add]

theorem heap4 (w : World) (A B C D : Obj) : ((((w.alloc A).alloc B).alloc C).alloc D).heap[w.heap.size + 1]? = some B ∧ ((((w.alloc A).alloc B).alloc C).alloc D).heap[w.heap.size + 1 + 1]? = some C ∧
    ((((w.alloc A).alloc B).alloc C).alloc D).heap[w.heap.size + 1 + 1 + 1]? = some D ∧ ((((w.alloc A).alloc B).alloc C).alloc D).heap.size = w.heap.size + 4 := by
  have s1 : ∀ (W : World) (o : Obj), (W.alloc o).heap.size = W.heap.size + 1 := fun W o => by simp
  refine ⟨?_, ?_, ?_, by rw [s1, s1, s1, s1]⟩
  · rw [Below.heap_alloc _ _ _ (by rw [s1, s1, s1]; omega), Below.heap_alloc _ _ _ (by rw [s1, s1]; omega)]
    have := heap_alloc_new (w.alloc A) B
    rwa [s1] at this
  · rw [Below.heap_alloc _ _ _ (by rw [s1, s1, s1]; omega)]
    have := heap_alloc_new ((w.alloc A).alloc B) C
    rwa [s1, s1] at this
  · have := heap_alloc_new (((w.alloc A).alloc B).alloc C) D
    rwa [s1, s1, s1] at this
theorem below4 (w : World) (A B C D : Obj) : Below w.heap.size w ((((w.alloc A).alloc B).alloc C).alloc D) := by
  have s1 : ∀ (W : World) (o : Obj), (W.alloc o).heap.size = W.heap.size + 1 := fun W o => by simp
  exact ((((Below.refl _ _).alloc (Nat.le_refl _) _).alloc (by rw [s1]; omega) _).alloc (by rw [s1, s1]; omega) _).alloc (by rw [s1, s1, s1]; omega) _


end Go.Proofs.YtkmimjngmfdpmaaGreatDoor
namespace Lx
structure Match where
  entry : Int
  ending : Int
  clitics : List Int
  long : Nat
/-- p begins s from place k on -/
def pre (s : ByteArray) (k : Nat) (p : ByteArray) : Bool := p.data.toList.isPrefixOf (s.data.toList.drop k)
theorem pre_size {s : ByteArray} {k : Nat} {p : ByteArray} (h : pre s k p = true) (hk : k ≤ s.size := by omega) : k + p.size ≤ s.size := by
  have h1 := (List.isPrefixOf_iff_prefix.1 h).length_le
  rw [List.length_drop] at h1
  have e1 : p.data.toList.length = p.size := rfl
  have e2 : s.data.toList.length = s.size := rfl
  omega
def stemV (x : Lexicon) (f : Form) : ByteArray :=
  match x.entries[f.entry.toNat]? with
  | none => ⟨#[]⟩
  | some e => if f.ending < 0 then e.root else match x.endings[f.ending.toNat]? with
    | some g => e.root ++ g.text
    | none => e.root
/-- entry and ending of a form are there -/
structure Fits (x : Lexicon) (f : Form) : Prop where
  ent : 0 ≤ f.entry ∧ f.entry < x.entries.length
  fin : f.ending < 0 ∨ (0 ≤ f.ending ∧ f.ending < x.endings.length)
theorem Valid.fits {x : Lexicon} {f : Form} (h : Valid x f) : Fits x f := ⟨h.ent, h.fin.imp (fun q => by omega) id⟩
/-- a match, and those with more clitics from a number on -/
def leanF (x : Lexicon) (s : ByteArray) : Nat → Match → Nat → List Match
  | 0, m, _ => [m]
  | fuel + 1, m, first => m :: (if m.clitics.length = 3 then [] else
      (List.range' first (x.clitics.length - first)).flatMap fun c => match x.clitics[c]? with
        | some g => if pre s m.long g.text then leanF x s fuel ⟨m.entry, m.ending, m.clitics ++ [(c : Int)], m.long + g.text.size⟩ (c + 1) else []
        | none => [])
theorem flatMap_len {α β : Type} {f : α → List β} {B : Nat} : ∀ (l : List α), (∀ a ∈ l, (f a).length ≤ B) → (l.flatMap f).length ≤ l.length * B
  | [], _ => by simp
  | a :: r, h => by
    rw [List.flatMap_cons, List.length_append, List.length_cons, Nat.succ_mul]
    have h1 := h a (by simp)
    have h2 := flatMap_len r (fun b hb => h b (by simp [hb]))
    omega
theorem leanF_len (x : Lexicon) (s : ByteArray) (hn : x.clitics.length ≤ 10) : ∀ (fuel : Nat) (m : Match) (first : Nat), (leanF x s fuel m first).length ≤ 11 ^ fuel
  | 0, m, first => by simp [leanF]
  | fuel + 1, m, first => by
    unfold leanF
    rw [List.length_cons]
    split
    · simp only [List.length_nil]
      have : 0 < 11 ^ (fuel + 1) := Nat.pow_pos (by omega)
      omega
    · have h := flatMap_len (B := 11 ^ fuel) (f := fun c => match x.clitics[c]? with
        | some g => if pre s m.long g.text then leanF x s fuel ⟨m.entry, m.ending, m.clitics ++ [(c : Int)], m.long + g.text.size⟩ (c + 1) else []
        | none => []) (List.range' first (x.clitics.length - first)) (fun c _ => by
          split
          · split
            · exact leanF_len x s hn fuel _ _
            · simp
          · simp)
      rw [List.length_range'] at h
      have h1 : (x.clitics.length - first) * 11 ^ fuel ≤ 10 * 11 ^ fuel := Nat.mul_le_mul_right _ (by omega)
      have h2 : 0 < 11 ^ fuel := Nat.pow_pos (by omega)
      rw [Nat.pow_succ]
      omega
/-- what one more clitic brings -/
def leanC (x : Lexicon) (s : ByteArray) (k : Nat) (m : Match) (c : Nat) : List Match := match x.clitics[c]? with
  | some g => if pre s m.long g.text then leanF x s k ⟨m.entry, m.ending, m.clitics ++ [(c : Int)], m.long + g.text.size⟩ (c + 1) else []
  | none => []
theorem leanF_succ {x : Lexicon} {s : ByteArray} {k : Nat} {m : Match} {first : Nat} (h : ¬ m.clitics.length = 3) : leanF x s (k + 1) m first = m :: (List.range' first (x.clitics.length - first)).flatMap (leanC x s k m) := by
  rw [leanF, if_neg h]; rfl
theorem leanC_len (x : Lexicon) (s : ByteArray) (hn : x.clitics.length ≤ 10) (k : Nat) (m : Match) (c : Nat) : (leanC x s k m c).length ≤ 11 ^ k := by
  unfold leanC
  split
  · split
    · exact leanF_len x s hn k _ _
    · simp
  · simp
def leanTo (x : Lexicon) (s : ByteArray) (k : Nat) (m : Match) (first j : Nat) : List Match := (List.range' first (j - first)).flatMap (leanC x s k m)
theorem leanTo_self (x : Lexicon) (s : ByteArray) (k : Nat) (m : Match) (first : Nat) : leanTo x s k m first first = [] := by simp [leanTo]
theorem leanTo_succ {x : Lexicon} {s : ByteArray} {k : Nat} {m : Match} {first j : Nat} (h : first ≤ j) : leanTo x s k m first (j + 1) = leanTo x s k m first j ++ leanC x s k m j := by
  unfold leanTo
  rw [show j + 1 - first = (j - first) + 1 by omega, List.range'_concat, List.flatMap_append]
  simp [show first + (j - first) = j by omega]
theorem leanTo_len (x : Lexicon) (s : ByteArray) (hn : x.clitics.length ≤ 10) (k : Nat) (m : Match) (first j : Nat) : (leanTo x s k m first j).length ≤ (j - first) * 11 ^ k := by
  have := flatMap_len (f := leanC x s k m) (B := 11 ^ k) (List.range' first (j - first)) (fun c _ => leanC_len x s hn k m c)
  rwa [List.length_range'] at this
end Lx
