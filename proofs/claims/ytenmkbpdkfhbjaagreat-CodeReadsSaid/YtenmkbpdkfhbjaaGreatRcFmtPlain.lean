/- The program's Gloss.; ostraconlaw05.known: the lexicon of the examples.; Matches: plain notions.; Matches in memory: rows with an inner slice; lists of the call's own.; lexicon.stem, ostraconref05.stem, lexicon.speech.; slices.Clone at []int, for every slice that reads as a list.; lexicon.lean: a match, and those with more clitics.; All matches of a line: plain notions.; lexicon.matches: all .. -/
import Derived.Test.YtenmkbpdkfhbjaaGreatRcShelf
import Derived.Lib.Strings
import Derived.Lib.IndexBytes
import Derived.Deep.DeepCutAuto
import Derived.Deep.Onto
import Derived.Test.YtenmkbpdkfhbjaaGreatRcLeaf
import Derived.Lib.ItoaLen
import Derived.Shelf.Strings.OnBuilder
import Derived.Shelf.Strconv.Itoa3
namespace Go.Proofs.YtenmkbpdkfhbjaaGreat
open Go.RowKit



end Go.Proofs.YtenmkbpdkfhbjaaGreat
namespace Go.Proofs.YtenmkbpdkfhbjaaGreat
open Go.RowKit
def Lx.known : Lx.Lexicon := ⟨[⟨⟨#[110, 102, 114]⟩, 1, ⟨#[103, 111, 111, 100]⟩, 2⟩, ⟨⟨#[110]⟩, 2, ⟨#[]⟩, 1⟩], [⟨1, ⟨#[116]⟩, ⟨#[102, 101, 109]⟩, 1⟩], [⟨⟨#[102]⟩, ⟨#[104, 105, 115]⟩, 1⟩, ⟨⟨#[114]⟩, ⟨#[116, 111]⟩, 0⟩]⟩

theorem rds_block {α : Type} {en : α → List Value} {size : Nat} {w : World} {g c : Nat} {cs : Array Value} {t : TypeId} {fr : Nat × Nat} {B : Nat} {xs : List α} (hu : ∀ x, (en x).length = size) (hh : w.heap[g]? = some (.cells cs t fr)) (hc : cs.toList = xs.flatMap en) (hB : g < B) (hl : xs.length ≤ c) (hm : c ≤ 9223372036854775807) :
  RdS w B size en (.slice (some ⟨g, 0, none⟩) xs.length c) xs := by
 refine ⟨some ⟨g, 0, none⟩, c, rfl, hl, hm, fun _ => ⟨g, 0, rfl, hB, fun i x hx j u hj => ?_⟩⟩
 have h1 := flat_at hu xs i x hx j u hj
 rw [← hc] at h1
 simp only [World.cell?, hh, Option.isSome_none, Bool.false_eq_true, if_false]
 rw [← h1]
 simp [Nat.zero_add]



end Go.Proofs.YtenmkbpdkfhbjaaGreat
namespace Lx
structure Match where
 entry : Int
 ending : Int
 clitics : List Int
 long : Nat
structure Fits (x : Lexicon) (f : Form) : Prop where
 ent : 0 ≤ f.entry ∧ f.entry < x.entries.length
 fin : f.ending < 0 ∨ (0 ≤ f.ending ∧ f.ending < x.endings.length)
theorem Valid.fits {x : Lexicon} {f : Form} (h : Valid x f) : Fits x f := ⟨h.ent, h.fin.imp (fun q => by omega) id⟩
end Lx
namespace Go.Proofs.YtenmkbpdkfhbjaaGreat
open Go.RowKit

def RdX {α : Type} (w : World) (ok : Nat → Prop) (size : Nat) (enc : α → List Value) (v : Value) (xs : List α) : Prop :=
 ∃ A c, v = .slice A xs.length c ∧ xs.length ≤ c ∧ c ≤ 9223372036854775807 ∧
  (0 < xs.length → ∃ b off, A = some ⟨b, off, none⟩ ∧ ok b ∧ ∀ i x, xs[i]? = some x → ∀ j u, (enc x)[j]? = some u → w.cell? ⟨b, off + i * size + j, none⟩ = some u)
theorem RdX.of {α : Type} {w : World} {B size : Nat} {enc : α → List Value} {v : Value} {xs : List α} (h : RdS w B size enc v xs) : RdX w (· < B) size enc v xs := h
theorem RdX.to {α : Type} {w : World} {B size : Nat} {enc : α → List Value} {v : Value} {xs : List α} {ok : Nat → Prop} (h : RdX w ok size enc v xs) (hB : ∀ b, ok b → b < B) : RdS w B size enc v xs := by
 obtain ⟨A, c, hv, hl, hc, hh⟩ := h
 refine ⟨A, c, hv, hl, hc, fun h0 => ?_⟩
 obtain ⟨b, off, hA, hb, hcell⟩ := hh h0
 exact ⟨b, off, hA, hB b hb, hcell⟩
theorem RdX.keep {α : Type} {w w' : World} {size : Nat} {enc : α → List Value} {v : Value} {xs : List α} {ok ok' : Nat → Prop} (h : RdX w ok size enc v xs) (hk : ∀ b, ok b → ok' b ∧ w'.heap[b]? = w.heap[b]?) : RdX w' ok' size enc v xs := by
 obtain ⟨A, c, hv, hl, hc, hh⟩ := h
 refine ⟨A, c, hv, hl, hc, fun h0 => ?_⟩
 obtain ⟨b, off, hA, hb, hcell⟩ := hh h0
 exact ⟨b, off, hA, (hk b hb).1, fun i x hx j u hu => (World.cell?_of_block (a := ⟨b, off + i * size + j, none⟩) (hk b hb).2).trans (hcell i x hx j u hu)⟩





end Go.Proofs.YtenmkbpdkfhbjaaGreat
namespace Go.Proofs.YtenmkbpdkfhbjaaGreat
open Go.RowKit






end Go.Proofs.YtenmkbpdkfhbjaaGreat
namespace Go.Proofs.YtenmkbpdkfhbjaaGreat
open Go.RowKit



end Go.Proofs.YtenmkbpdkfhbjaaGreat
namespace Go.Proofs.YtenmkbpdkfhbjaaGreat
open Go.RowKit




theorem grown_of_below {w w' : World} {row : Option Nat} (h : Below w.heap.size w w') : w.grownBy w' row := ⟨h.os, h.tape, h.output, h.size, fun k hk _ => h.block k hk⟩
theorem grown_after {a b c : World} {row row' : Option Nat} (h : a.grownBy b row) (k : b.grownBy c row') (hr : row' = row ∨ ∃ g, row' = some g ∧ a.heap.size ≤ g) : a.grownBy c row :=
 ⟨k.os.trans h.os, k.tape.trans h.tape, k.output.trans h.output, Nat.le_trans h.size k.size, fun i hi hne => (k.block i (Nat.lt_of_lt_of_le hi h.size) (by
  rcases hr with e | ⟨g, e, hg⟩
  ·rw [e]; exact hne
  ·rw [e]; intro q; cases q; omega)).trans (h.block i hi hne)⟩


theorem rdx_of_own {α : Type} {enc : α → List Value} {size : Nat} {w : World} {base : Nat} {e : TypeId} {v : Value} {xs : List α} (hu : ∀ x, (enc x).length = size) (h : w.ownsRow base e size v xs.length (xs.flatMap enc)) : RdX w (fun b => base ≤ b ∧ b < w.heap.size) size enc v xs := by
 obtain ⟨_, h2⟩ := id h
 rcases h2 with ⟨rfl, h0⟩ | ⟨g, cap, cur, rfl, hg, hh, hle, hm, hs, ht⟩
 ·exact ⟨none, 0, by rw [h0], by omega, by omega, fun hp => by omega⟩
 ·refine ⟨some ⟨g, 0, none⟩, cap, rfl, hle, by simpa [maxLen] using hm, fun _ => ⟨g, 0, rfl, ⟨hg, (h.lt g rfl).2⟩, fun i x hx j u hj => ?_⟩⟩
  have := h.cells rfl (i * size + j) u (flat_at hu xs i x hx j u hj)
  rw [addr_add] at this
  rw [← this, Nat.add_assoc]




end Go.Proofs.YtenmkbpdkfhbjaaGreat
namespace Lx
end Lx
namespace Go.Proofs.YtenmkbpdkfhbjaaGreat
open Go.RowKit







end Go.Proofs.YtenmkbpdkfhbjaaGreat
namespace Go.Proofs.YtenmkbpdkfhbjaaGreat
open Go.RowKit

structure RowK (α : Type) where
 size : Nat
 rd : World → (Nat → Prop) → List Value → α → Prop
 len : ∀ {w : World} {ok : Nat → Prop} {cs : List Value} {a : α}, rd w ok cs a → cs.length = size
 keep : ∀ {w w' : World} {ok ok' : Nat → Prop} {cs : List Value} {a : α}, (∀ b, ok b → ok' b ∧ w'.heap[b]? = w.heap[b]?) → rd w ok cs a → rd w' ok' cs a
section
variable {α : Type} {K : RowK α}
inductive grows (K : RowK α) (w : World) (ok : Nat → Prop) : List Value → List α → Prop
 | nil : grows K w ok [] []
 | cons {cs r : List Value} {a : α} {xs : List α} (h : K.rd w ok cs a) (t : grows K w ok r xs) : grows K w ok (cs ++ r) (a :: xs)
theorem grows.keep {w w' : World} {ok ok' : Nat → Prop} (hk : ∀ b, ok b → ok' b ∧ w'.heap[b]? = w.heap[b]?) {cs : List Value} {xs : List α} (h : grows K w ok cs xs) : grows K w' ok' cs xs := by
 induction h with
 | nil => exact .nil
 | cons h _ ih => exact .cons (K.keep hk h) ih
theorem grows.snoc {w : World} {ok : Nat → Prop} {c : List Value} {a : α} (hc : K.rd w ok c a) {cs : List Value} {xs : List α} (h : grows K w ok cs xs) : grows K w ok (cs ++ c) (xs ++ [a]) := by
 induction h with
 | nil => have := grows.cons hc grows.nil; simpa using this
 | cons h _ ih => rw [List.append_assoc]; exact .cons h ih
theorem grows.at {w : World} {ok : Nat → Prop} {cs : List Value} {xs : List α} (h : grows K w ok cs xs) : ∀ {i : Nat} {a : α}, xs[i]? = some a → ∃ c, K.rd w ok c a ∧ ∀ (j : Nat) (u : Value), c[j]? = some u → cs[i * K.size + j]? = some u := by
 induction h with
 | nil => intro i a h; simp at h
 | @cons c r a xs h _ ih =>
  intro i a' h'
  cases i with
  | zero =>
   simp at h'
   subst h'
   refine ⟨c, h, fun j u hj => ?_⟩
   rw [Nat.zero_mul, Nat.zero_add, List.getElem?_append_left (List.getElem?_eq_some_iff.1 hj).1]
   exact hj
  | succ i =>
   simp at h'
   obtain ⟨c', h1, h2⟩ := ih h'
   refine ⟨c', h1, fun j u hj => ?_⟩
   have hl := K.len h
   rw [Nat.succ_mul, List.getElem?_append_right (by omega), show i * K.size + K.size + j - c.length = i * K.size + j by omega]
   exact h2 j u hj
def OwnG (K : RowK α) (e : TypeId) (w : World) (base : Nat) (v : Value) (xs : List α) : Prop :=
 ∃ cells, w.ownsRow base e K.size v xs.length cells ∧ grows K w (fun b => b < w.heap.size ∧ v.ownBlock ≠ some b ∧ base ≤ b) cells xs
def RdG (K : RowK α) (w : World) (ok : Nat → Prop) (v : Value) (xs : List α) : Prop :=
 ∃ A c, v = .slice A xs.length c ∧ xs.length ≤ c ∧ c ≤ 9223372036854775807 ∧
  (0 < xs.length → ∃ b off, A = some ⟨b, off, none⟩ ∧ ok b ∧ ∀ (i : Nat) (a : α), xs[i]? = some a → ∃ cs, K.rd w ok cs a ∧ ∀ (j : Nat) (u : Value), cs[j]? = some u → w.cell? ⟨b, off + i * K.size + j, none⟩ = some u)
theorem RdG.keep {w w' : World} {ok ok' : Nat → Prop} {v : Value} {xs : List α} (h : RdG K w ok v xs) (hk : ∀ b, ok b → ok' b ∧ w'.heap[b]? = w.heap[b]?) : RdG K w' ok' v xs := by
 obtain ⟨A, c, hv, hl, hc, hh⟩ := h
 refine ⟨A, c, hv, hl, hc, fun h0 => ?_⟩
 obtain ⟨b, off, hA, hb, hcell⟩ := hh h0
 refine ⟨b, off, hA, (hk b hb).1, fun i a ha => ?_⟩
 obtain ⟨cs, h1, h2⟩ := hcell i a ha
 exact ⟨cs, K.keep hk h1, fun j u hj => (World.cell?_of_block (w := w) (w' := w') (a := ⟨b, off + i * K.size + j, none⟩) (hk b hb).2).trans (h2 j u hj)⟩
theorem RdG.form {w : World} {ok : Nat → Prop} {v : Value} {xs : List α} (h : RdG K w ok v xs) : ∃ A c, v = .slice A xs.length c := by
 obtain ⟨A, c, hv, _⟩ := h
 exact ⟨A, c, hv⟩
theorem RdG.nil (w : World) (ok : Nat → Prop) : RdG K w ok (.slice none 0 0) [] := ⟨none, 0, rfl, by simp, by omega, fun h => absurd h (by simp)⟩
theorem RdG.at {w : World} {ok : Nat → Prop} {A : Option Addr} {n c : Nat} {xs : List α} (h : RdG K w ok (.slice A n c) xs) (h0 : 0 < xs.length) :
  ∃ b off, A = some ⟨b, off, none⟩ ∧ ok b ∧ ∀ (i : Nat) (a : α), xs[i]? = some a → ∃ cs, K.rd w ok cs a ∧ ∀ (j : Nat) (u : Value), cs[j]? = some u → w.cell? ⟨b, off + i * K.size + j, none⟩ = some u := by
 obtain ⟨A', c', hv, _, _, hh⟩ := h
 cases hv
 exact hh h0
theorem OwnG.rd {e : TypeId} {w : World} {base : Nat} {v : Value} {xs : List α} (h : OwnG K e w base v xs) : RdG K w (fun b => b < w.heap.size ∧ base ≤ b) v xs := by
 obtain ⟨cells, h1, h2⟩ := h
 obtain ⟨_, h3⟩ := id h1
 rcases h3 with ⟨rfl, h0⟩ | ⟨g, cap, cur, rfl, hg, hh, hle, hm, hs, ht⟩
 ·exact ⟨none, 0, by rw [h0], by omega, by omega, fun hp => by omega⟩
 ·refine ⟨some ⟨g, 0, none⟩, cap, rfl, hle, by simpa [maxLen] using hm, fun _ => ⟨g, 0, rfl, ⟨(h1.lt g rfl).2, hg⟩, fun i a hi => ?_⟩⟩
  obtain ⟨cs, e1, e2⟩ := h2.at hi
  refine ⟨cs, K.keep (fun b hb => ⟨⟨hb.1, hb.2.2⟩, rfl⟩) e1, fun j u hj => ?_⟩
  have := h1.cells rfl (i * K.size + j) u (e2 j u hj)
  rw [addr_add] at this
  rw [← this, Nat.add_assoc]
theorem OwnG.nil (e : TypeId) (w : World) (base : Nat) : OwnG K e w base (.slice none 0 0) [] := ⟨[], World.ownsRow_nil w base _ _, .nil⟩
theorem OwnG.form {e : TypeId} {w : World} {base : Nat} {v : Value} {xs : List α} (h : OwnG K e w base v xs) : ∃ A c, v = .slice A xs.length c := by
 obtain ⟨cells, h1, _⟩ := h
 exact own_form h1
theorem OwnG.lt {e : TypeId} {w : World} {base : Nat} {v : Value} {xs : List α} (h : OwnG K e w base v xs) : ∀ g, v.ownBlock = some g → base ≤ g ∧ g < w.heap.size := by
 obtain ⟨cells, h1, _⟩ := h
 exact fun g hg => h1.lt g hg
theorem OwnG.aside {e : TypeId} {w w' : World} {base : Nat} {row : Option Nat} {v : Value} {xs : List α} (h : OwnG K e w base v xs) (hg : w.grownBy w' row) (hk : ∀ k, row = some k → k < base) : OwnG K e w' base v xs := by
 obtain ⟨cells, h1, h2⟩ := h
 refine ⟨cells, h1.kept hg ?_, h2.keep (fun b hbk => ⟨⟨Nat.lt_of_lt_of_le hbk.1 hg.size, hbk.2⟩, hg.block b hbk.1 (fun e => by have := hk b e.symm; omega)⟩)⟩
 rcases h1.2 with ⟨rfl, _⟩ | ⟨g, cap, cur, rfl, hg', _⟩
 ·exact .inl rfl
 ·exact .inr (fun e => by have := hk g (by rw [← e]; rfl); omega)
theorem OwnG.kept {e : TypeId} {w w' : World} {base : Nat} {v : Value} {xs : List α} (h : OwnG K e w base v xs) (hb : Below w.heap.size w w') : OwnG K e w' base v xs := h.aside (grown_of_below (row := none) hb) (by simp)
theorem OwnG.snoc {e : TypeId} {w w' : World} {base : Nat} {v v' : Value} {xs : List α} {a : α} {cells cs : List Value} (h2 : grows K w (fun b => b < w.heap.size ∧ v.ownBlock ≠ some b ∧ base ≤ b) cells xs)
  (hm : K.rd w (fun b => b < w.heap.size ∧ v.ownBlock ≠ some b ∧ base ≤ b) cs a) (hown : w'.ownsRow base e K.size v' (xs.length + 1) (cells ++ cs)) (hg : w.grownBy w' v.ownBlock)
  (hat : v'.ownBlock = v.ownBlock ∨ ∃ g, v'.ownBlock = some g ∧ w.heap.size ≤ g) : OwnG K e w' base v' (xs ++ [a]) := by
 have hk : ∀ b, (b < w.heap.size ∧ v.ownBlock ≠ some b ∧ base ≤ b) → (b < w'.heap.size ∧ v'.ownBlock ≠ some b ∧ base ≤ b) ∧ w'.heap[b]? = w.heap[b]? := by
  intro b ⟨hb, hne, hbs⟩
  refine ⟨⟨Nat.lt_of_lt_of_le hb hg.size, ?_, hbs⟩, hg.block b hb (fun e => hne e.symm)⟩
  rcases hat with e | ⟨g, e, hge⟩
  ·rw [e]; exact hne
  ·rw [e]; intro q; cases q; omega
 exact ⟨_, by rw [List.length_append]; exact hown, (h2.snoc hm).keep hk⟩
end



end Go.Proofs.YtenmkbpdkfhbjaaGreat
namespace Go.Proofs.YtenmkbpdkfhbjaaGreat
open Go Go.RowKit

def encValue (v : Sg.Value) : List Value := [.int .i64 v.kind, .string v.text, .int .i64 v.lo, .int .i64 v.hi]
theorem len_value (v : Sg.Value) : (encValue v).length = 4 := rfl
theorem one_value (v : Sg.Value) : ∀ u ∈ encValue v, u.oneCell' = true := by intro u hu; simp [encValue] at hu; rcases hu with rfl | rfl | rfl | rfl <;> rfl
def Sg.Value.fits (v : Sg.Value) : Prop := v.text.size ≤ maxLen
def KSign : RowK Sg.Sign where
 size := 5
 rd w ok cs s := ∃ v, cs = [.string s.code, .int .i64 s.wide, .int .i64 s.high, .bool s.even, v] ∧ RdX w ok 4 encValue v s.values
 len := by rintro w ok cs s ⟨v, rfl, _⟩; rfl
 keep := by rintro w w' ok ok' cs s hk ⟨v, rfl, h⟩; exact ⟨v, rfl, h.keep hk⟩
def Sg.Sign.fits (s : Sg.Sign) : Prop := s.code.size ≤ maxLen ∧ ∀ v ∈ s.values, Sg.Value.fits v
structure RdSL (w : World) (B : Nat) (v : Value) (l : Sg.SList) : Prop where
 ex : ∃ u, v = .agg #[.int .i64 l.periods, u] ∧ RdG KSign w (· < B) u l.signs
 fs : ∀ s ∈ l.signs, Sg.Sign.fits s
theorem RdSL.keep {w w' : World} {B B' : Nat} {v : Value} {l : Sg.SList} (h : RdSL w B v l) (hB : B ≤ B') (hb : Below B w w') : RdSL w' B' v l := by
 obtain ⟨⟨u, rfl, h1⟩, h2⟩ := h
 exact ⟨⟨u, rfl, h1.keep fun b hlt => ⟨Nat.lt_of_lt_of_le hlt hB, hb.block b hlt⟩⟩, h2⟩
theorem RdSL.on {w w' : World} {v : Value} {l : Sg.SList} (h : RdSL w w.heap.size v l) (hb : Below w.heap.size w w') : RdSL w' w'.heap.size v l := h.keep hb.size hb
theorem info_Value : (Tryz.prog.info? 103).map (fun i => (i.zero, i.size, i.bytes)) = some (some (.agg #[.int .i64 0, .string ⟨#[]⟩, .int .i64 0, .int .i64 0]), 4, 40) := by kernel_rfl
theorem info_Sign : (Tryz.prog.info? 66).map (fun i => (i.zero, i.size, i.bytes)) = some (some (.agg #[.string ⟨#[]⟩, .int .i64 0, .int .i64 0, .bool false, .slice none 0 0]), 5, 64) := by kernel_rfl
theorem RdX.four {w : World} {ok : Nat → Prop} {A : Option Addr} {n c : Nat} {l : List Sg.Value} (h : RdX w ok 4 encValue (.slice A n c) l) (h0 : 0 < l.length) :
  ∃ b off, A = some ⟨b, off, none⟩ ∧ ok b ∧ ∀ i v, l[i]? = some v → w.cell? ⟨b, off + i * 4, none⟩ = some (.int .i64 v.kind) ∧ w.cell? ⟨b, off + i * 4 + 1, none⟩ = some (.string v.text) ∧ w.cell? ⟨b, off + i * 4 + 2, none⟩ = some (.int .i64 v.lo) ∧ w.cell? ⟨b, off + i * 4 + 3, none⟩ = some (.int .i64 v.hi) := by
 obtain ⟨A', c', hv, _, _, hh⟩ := h
 cases hv
 obtain ⟨b, off, rfl, hb, hcell⟩ := hh h0
 refine ⟨b, off, rfl, hb, fun i v hi => ⟨?_, hcell i v hi 1 _ rfl, hcell i v hi 2 _ rfl, hcell i v hi 3 _ rfl⟩⟩
 have := hcell i v hi 0 _ rfl
 simpa using this
theorem RdG.five {w : World} {ok : Nat → Prop} {A : Option Addr} {n c : Nat} {l : List Sg.Sign} (h : RdG KSign w ok (.slice A n c) l) (h0 : 0 < l.length) :
  ∃ b off, A = some ⟨b, off, none⟩ ∧ ok b ∧ ∀ i s, l[i]? = some s → ∃ u, RdX w ok 4 encValue u s.values ∧ w.cell? ⟨b, off + i * 5, none⟩ = some (.string s.code) ∧ w.cell? ⟨b, off + i * 5 + 1, none⟩ = some (.int .i64 s.wide) ∧ w.cell? ⟨b, off + i * 5 + 2, none⟩ = some (.int .i64 s.high) ∧
   w.cell? ⟨b, off + i * 5 + 3, none⟩ = some (.bool s.even) ∧ w.cell? ⟨b, off + i * 5 + 4, none⟩ = some u := by
 obtain ⟨b, off, rfl, hb, hcell⟩ := RdG.at h h0
 refine ⟨b, off, rfl, hb, fun i s hi => ?_⟩
 obtain ⟨cs, ⟨u, rfl, hu⟩, hc⟩ := hcell i s hi
 refine ⟨u, hu, ?_, hc 1 _ rfl, hc 2 _ rfl, hc 3 _ rfl, hc 4 _ rfl⟩
 have := hc 0 _ rfl
 simpa [KSign] using this
end Go.Proofs.YtenmkbpdkfhbjaaGreat
namespace Lx
open Go

end Lx
