/- Matches in memory: rows with an inner slice; lists of the call's own. lexicon.stem, ostraconref05.stem, lexicon.speech. slices.Clone at []int, for every slice that reads as a list. lexicon.lean: a match, and those with more clitics. All matches of a line: plain notions. lexicon.matches: all forms whose sounds begin a line. -/
import Derived.Test.YtkmimjngmfdpmaaGreatDoorMgGlossPlain
import Derived.Test.YtkmimjngmfdpmaaGreatDoorMgMatchPlain
import Derived.Lib.IndexBytes
import Derived.Deep.DeepCutAuto
import Derived.Deep.Onto
namespace Go.Proofs.YtkmimjngmfdpmaaGreatDoor
open Go.RowKit

/-- As RdS, the block within 'ok'. -/
def RdX {α : Type} (w : World) (ok : Nat → Prop) (size : Nat) (enc : α → List Value) (v : Value) (xs : List α) : Prop :=
  ∃ A c, v = .slice A xs.length c ∧ xs.length ≤ c ∧ c ≤ 9223372036854775807 ∧
    (0 < xs.length → ∃ b off, A = some ⟨b, off, none⟩ ∧ ok b ∧ ∀ i x, xs[i]? = some x → ∀ j u, (enc x)[j]? = some u → w.cell? ⟨b, off + i * size + j, none⟩ = some u)
theorem RdX.of {α : Type} {w : World} {B size : Nat} {enc : α → List Value} {v : Value} {xs : List α} (h : RdS w B size enc v xs) : RdX w (· < B) size enc v xs := h
theorem RdX.to {α : Type} {w : World} {B size : Nat} {enc : α → List Value} {v : Value} {xs : List α} {ok : Nat → Prop} (h : RdX w ok size enc v xs) (hB : ∀ b, ok b → b < B) : RdS w B size enc v xs := by
  obtain ⟨A, c, hv, hl, hc, hh⟩ := h
  refine ⟨A, c, hv, hl, hc, fun h0 => ?_⟩
  obtain ⟨b, off, hA, hb, hcell⟩ := hh h0
  exact ⟨b, off, hA, hB b hb, hcell⟩
theorem RdX.keep {α : Type} {w w' : World} {size : Nat} {enc : α → List Value} {v : Value} {xs : List α} {ok ok' : Nat → Prop} (h : RdX w ok size enc v xs) (hk : ∀ b, ok b → ok' b ∧ w'.heap[b]? = w.heap[b]?) : RdX w' ok' size enc v xs := by
  obtain ⟨A, c, hv, hl, hc, hh⟩ := h
  refine ⟨A, c, hv, hl, hc, fun h0 => ?_⟩
  obtain ⟨b, off, hA, hb, hcell⟩ := hh h0
  exact ⟨b, off, hA, (hk b hb).1, fun i x hx j u hu => (World.cell?_of_block (a := ⟨b, off + i * size + j, none⟩) (hk b hb).2).trans (hcell i x hx j u hu)⟩

/-- The cells of rows of matches. -/
def mrows (w : World) (ok : Nat → Prop) : List Value → List Lx.Match → Prop
  | [], [] => True
  | a :: b :: c :: d :: r, m :: ms => a = .int .i64 m.entry ∧ b = .int .i64 m.ending ∧ RdX w ok 1 encInt c m.clitics ∧ d = .int .i64 m.long ∧ mrows w ok r ms
  | _, _ => False
theorem mrows_keep {w w' : World} {ok ok' : Nat → Prop} (hk : ∀ b, ok b → ok' b ∧ w'.heap[b]? = w.heap[b]?) : ∀ (cs : List Value) (ms : List Lx.Match), mrows w ok cs ms → mrows w' ok' cs ms
  | [], [], _ => trivial
  | a :: b :: c :: d :: r, m :: ms, ⟨h1, h2, h3, h4, h5⟩ => ⟨h1, h2, h3.keep hk, h4, mrows_keep hk r ms h5⟩
  | [], _ :: _, h => h
  | [_], _, h => by cases ‹List Lx.Match› <;> exact h
  | [_, _], _, h => by cases ‹List Lx.Match› <;> exact h
  | [_, _, _], _, h => by cases ‹List Lx.Match› <;> exact h
  | _ :: _ :: _ :: _ :: _, [], h => h
theorem mrows_snoc {w : World} {ok : Nat → Prop} {a b c d : Value} {m : Lx.Match} (h : mrows w ok [a, b, c, d] [m]) : ∀ (cs : List Value) (ms : List Lx.Match), mrows w ok cs ms → mrows w ok (cs ++ [a, b, c, d]) (ms ++ [m])
  | [], [], _ => h
  | _ :: _ :: _ :: _ :: r, _ :: ms, ⟨h1, h2, h3, h4, h5⟩ => ⟨h1, h2, h3, h4, mrows_snoc h r ms h5⟩
  | [], _ :: _, h => h.elim
  | [_], ms, h => by cases ms <;> exact h.elim
  | [_, _], ms, h => by cases ms <;> exact h.elim
  | [_, _, _], ms, h => by cases ms <;> exact h.elim
  | _ :: _ :: _ :: _ :: _, [], h => h.elim
theorem mrows_at {w : World} {ok : Nat → Prop} : ∀ (cs : List Value) (ms : List Lx.Match), mrows w ok cs ms → ∀ (i : Nat) (m : Lx.Match), ms[i]? = some m →
    cs[i * 4]? = some (.int .i64 m.entry) ∧ cs[i * 4 + 1]? = some (.int .i64 m.ending) ∧ (∃ c, cs[i * 4 + 2]? = some c ∧ RdX w ok 1 encInt c m.clitics) ∧ cs[i * 4 + 3]? = some (.int .i64 m.long)
  | [], [], _, i, m, h => by simp at h
  | a :: b :: c :: d :: r, m0 :: ms, ⟨h1, h2, h3, h4, h5⟩, i, m, h => by
    cases i with
    | zero =>
      simp at h
      subst h
      exact ⟨by simp [h1], by simp [h2], ⟨c, by simp, h3⟩, by simp [h4]⟩
    | succ i =>
      simp at h
      have := mrows_at r ms h5 i m h
      simpa [Nat.succ_mul] using this
  | [], _ :: _, h, _, _, _ => h.elim
  | [_], ms, h, _, _, _ => by cases ms <;> exact h.elim
  | [_, _], ms, h, _, _, _ => by cases ms <;> exact h.elim
  | [_, _, _], ms, h, _, _, _ => by cases ms <;> exact h.elim
  | _ :: _ :: _ :: _ :: _, [], h, _, _, _ => h.elim




end Go.Proofs.YtkmimjngmfdpmaaGreatDoor
namespace Go.Proofs.YtkmimjngmfdpmaaGreatDoor
open Go.RowKit

def RetS (s : ByteArray) (w : World) (e : Ending) (w' : World) : Prop := e = .returned (.string s) ∧ Below w.heap.size w w'
theorem ret_str {s t : ByteArray} (h : s = t) : Ending.returned (.string s) = .returned (.string t) := by rw [h]



def Lx.speechV (x : Lx.Lexicon) (s : ByteArray) : Int := if Lx.checkV x ≠ 0 then Lx.checkV x else if Lx.soundsB s 64 = false then 4 else 0


end Go.Proofs.YtkmimjngmfdpmaaGreatDoor
namespace Go.Proofs.YtkmimjngmfdpmaaGreatDoor
open Go.RowKit

theorem flat_int (cs : List Int) : cs.flatMap encInt = cs.map (Value.int .i64) := by
  induction cs with
  | nil => rfl
  | cons c r ih => rw [List.flatMap_cons, List.map_cons, ih]; rfl


end Go.Proofs.YtkmimjngmfdpmaaGreatDoor
namespace Go.Proofs.YtkmimjngmfdpmaaGreatDoor
open Go.RowKit

/-- the cells of one match -/
def enc4 (q : Int × Int × (Option Addr × Nat × Nat) × Int) : List Value := [.int .i64 q.1, .int .i64 q.2.1, .slice q.2.2.1.1 q.2.2.1.2.1 q.2.2.1.2.2, .int .i64 q.2.2.2]
theorem len_4 (q : Int × Int × (Option Addr × Nat × Nat) × Int) : (enc4 q).length = 4 := rfl
theorem one_4 (q : Int × Int × (Option Addr × Nat × Nat) × Int) : ∀ u ∈ enc4 q, u.oneCell' = true := by intro u hu; simp [enc4] at hu; rcases hu with rfl | rfl | rfl | rfl <;> rfl

/-- A match as a value: its inner slice not in the row g. -/
def RdM (w : World) (base : Nat) (g : Option Nat) (v : Value) (m : Lx.Match) : Prop :=
  ∃ A c, v = .agg #[.int .i64 m.entry, .int .i64 m.ending, .slice A m.clitics.length c, .int .i64 m.long] ∧ RdX w (fun b => b < w.heap.size ∧ g ≠ some b ∧ base ≤ b) 1 encInt (.slice A m.clitics.length c) m.clitics


theorem heap3 (w : World) (A B C : Obj) : (((w.alloc A).alloc B).alloc C).heap[w.heap.size]? = some A ∧ (((w.alloc A).alloc B).alloc C).heap[w.heap.size + 1]? = some B ∧
    (((w.alloc A).alloc B).alloc C).heap[w.heap.size + 2]? = some C ∧ (((w.alloc A).alloc B).alloc C).heap.size = w.heap.size + 3 := by
  have s1 : ∀ (W : World) (o : Obj), (W.alloc o).heap.size = W.heap.size + 1 := fun W o => by simp
  refine ⟨?_, ?_, ?_, by rw [s1, s1, s1]⟩
  · rw [Below.heap_alloc _ _ _ (by rw [s1, s1]; omega), Below.heap_alloc _ _ _ (by rw [s1]; omega)]
    exact heap_alloc_new w A
  · rw [Below.heap_alloc _ _ _ (by rw [s1, s1]; omega)]
    have := heap_alloc_new (w.alloc A) B
    rwa [s1] at this
  · have := heap_alloc_new ((w.alloc A).alloc B) C
    rwa [s1, s1] at this
theorem below3 (w : World) (A B C : Obj) : Below w.heap.size w (((w.alloc A).alloc B).alloc C) := by
  have s1 : ∀ (W : World) (o : Obj), (W.alloc o).heap.size = W.heap.size + 1 := fun W o => by simp
  exact (((Below.refl _ _).alloc (Nat.le_refl _) _).alloc (by rw [s1]; omega) _).alloc (by rw [s1, s1]; omega) _
theorem grown_of_below {w w' : World} {row : Option Nat} (h : Below w.heap.size w w') : w.grownBy w' row := ⟨h.os, h.tape, h.output, h.size, fun k hk _ => h.block k hk⟩
theorem grown_after {a b c : World} {row row' : Option Nat} (h : a.grownBy b row) (k : b.grownBy c row') (hr : row' = row ∨ ∃ g, row' = some g ∧ a.heap.size ≤ g) : a.grownBy c row :=
  ⟨k.os.trans h.os, k.tape.trans h.tape, k.output.trans h.output, Nat.le_trans h.size k.size, fun i hi hne => (k.block i (Nat.lt_of_lt_of_le hi h.size) (by
    rcases hr with e | ⟨g, e, hg⟩
    · rw [e]; exact hne
    · rw [e]; intro q; cases q; omega)).trans (h.block i hi hne)⟩

theorem after3 {w w1 : World} {A B C : Obj} {row : Option Nat} (hg : (((w.alloc A).alloc B).alloc C).grownBy w1 row) (hrow : ∀ g, row = some g → g < w.heap.size) :
    w1.heap[w.heap.size]? = some A ∧ w1.heap[w.heap.size + 1]? = some B ∧ w.heap.size + 3 ≤ w1.heap.size ∧ w.grownBy w1 row := by
  obtain ⟨a, b, _, d⟩ := heap3 w A B C
  refine ⟨?_, ?_, by have := hg.size; omega, grown_after (grown_of_below (below3 w A B C)) hg (.inl rfl)⟩
  · rw [hg.block _ (by omega) (fun e => by have := hrow _ e.symm; omega)]; exact a
  · rw [hg.block _ (by omega) (fun e => by have := hrow _ e.symm; omega)]; exact b
theorem keep3 {w : World} {A B C : Obj} {ok : Nat → Prop} (b : Nat) (h : b < w.heap.size ∧ ok b) : (b < (((w.alloc A).alloc B).alloc C).heap.size ∧ ok b) ∧ (((w.alloc A).alloc B).alloc C).heap[b]? = w.heap[b]? :=
  ⟨⟨by have := (heap3 w A B C).2.2.2; omega, h.2⟩, (below3 w A B C).block b h.1⟩

theorem rdx_of_own {α : Type} {enc : α → List Value} {size : Nat} {w : World} {base : Nat} {e : TypeId} {v : Value} {xs : List α} (hu : ∀ x, (enc x).length = size) (h : w.ownsRow base e size v xs.length (xs.flatMap enc)) : RdX w (fun b => base ≤ b ∧ b < w.heap.size) size enc v xs := by
  obtain ⟨_, h2⟩ := id h
  rcases h2 with ⟨rfl, h0⟩ | ⟨g, cap, cur, rfl, hg, hh, hle, hm, hs, ht⟩
  · exact ⟨none, 0, by rw [h0], by omega, by omega, fun hp => by omega⟩
  · refine ⟨some ⟨g, 0, none⟩, cap, rfl, hle, by simpa [maxLen] using hm, fun _ => ⟨g, 0, rfl, ⟨hg, (h.lt g rfl).2⟩, fun i x hx j u hj => ?_⟩⟩
    have := h.cells rfl (i * size + j) u (flat_at hu xs i x hx j u hj)
    rw [addr_add] at this
    rw [← this, Nat.add_assoc]
theorem pre_eq (s : ByteArray) (k : Nat) (p : ByteArray) : Lib.hasPrefix (s.extract k s.size).data.toList p.data.toList = Lx.pre s k p := by
  rw [Lib.extract_to_end]; rfl




end Go.Proofs.YtkmimjngmfdpmaaGreatDoor
namespace Lx
/-- is the q-th ending (0: none) of another kind than the entry? -/
def skipB (x : Lexicon) (e : Entry) (q : Nat) : Bool := decide (0 < q) && (match x.endings[q - 1]? with
  | some g => decide (g.kind ≠ e.kind)
  | none => false)
/-- the forms of entry i with the q-th ending (0: none) whose sounds begin s -/
def matchesQ (x : Lexicon) (s : ByteArray) (i : Nat) (e : Entry) (q : Nat) : List Match :=
  if skipB x e q = true then []
  else if pre s 0 (stemV x ⟨(i : Int), (q : Int) - 1, []⟩) then leanF x s 3 ⟨(i : Int), (q : Int) - 1, [], (stemV x ⟨(i : Int), (q : Int) - 1, []⟩).size⟩ 0 else []
def matchesTo (x : Lexicon) (s : ByteArray) (i : Nat) (e : Entry) (n : Nat) : List Match := (List.range n).flatMap (matchesQ x s i e)
def matchesE (x : Lexicon) (s : ByteArray) (i : Nat) : List Match := match x.entries[i]? with
  | some e => if pre s 0 e.root then matchesTo x s i e (x.endings.length + 1) else []
  | none => []
def matchesN (x : Lexicon) (s : ByteArray) (n : Nat) : List Match := (List.range n).flatMap (matchesE x s)
def matchesV (x : Lexicon) (s : ByteArray) : List Match := matchesN x s x.entries.length
theorem matchesTo_zero (x : Lexicon) (s : ByteArray) (i : Nat) (e : Entry) : matchesTo x s i e 0 = [] := rfl
theorem matchesTo_succ (x : Lexicon) (s : ByteArray) (i : Nat) (e : Entry) (n : Nat) : matchesTo x s i e (n + 1) = matchesTo x s i e n ++ matchesQ x s i e n := by
  simp [matchesTo, List.range_succ, List.flatMap_append]
theorem matchesN_zero (x : Lexicon) (s : ByteArray) : matchesN x s 0 = [] := rfl
theorem matchesN_succ (x : Lexicon) (s : ByteArray) (n : Nat) : matchesN x s (n + 1) = matchesN x s n ++ matchesE x s n := by
  simp [matchesN, List.range_succ, List.flatMap_append]
theorem matchesE_yes {x : Lexicon} {s : ByteArray} {i : Nat} {e : Entry} (he : x.entries[i]? = some e) (hp : pre s 0 e.root = true) : matchesE x s i = matchesTo x s i e (x.endings.length + 1) := by
  simp [matchesE, he, hp]
theorem matchesE_no {x : Lexicon} {s : ByteArray} {i : Nat} {e : Entry} (he : x.entries[i]? = some e) (hp : pre s 0 e.root = false) : matchesE x s i = [] := by
  simp [matchesE, he, hp]
theorem matchesQ_len (x : Lexicon) (s : ByteArray) (hn : x.clitics.length ≤ 10) (i : Nat) (e : Entry) (q : Nat) : (matchesQ x s i e q).length ≤ 1331 := by
  unfold matchesQ
  split
  · simp
  · split
    · exact leanF_len x s hn 3 _ _
    · simp
theorem matchesTo_len (x : Lexicon) (s : ByteArray) (hn : x.clitics.length ≤ 10) (i : Nat) (e : Entry) (n : Nat) : (matchesTo x s i e n).length ≤ n * 1331 := by
  have := flatMap_len (f := matchesQ x s i e) (B := 1331) (List.range n) (fun q _ => matchesQ_len x s hn i e q)
  rwa [List.length_range] at this
theorem matchesE_len (x : Lexicon) (s : ByteArray) (hn : x.clitics.length ≤ 10) (hm : x.endings.length ≤ 40) (i : Nat) : (matchesE x s i).length ≤ 54571 := by
  unfold matchesE
  split
  · split
    · have := matchesTo_len x s hn i ‹_› (x.endings.length + 1); omega
    · simp
  · simp
theorem matchesN_len (x : Lexicon) (s : ByteArray) (hn : x.clitics.length ≤ 10) (hm : x.endings.length ≤ 40) (n : Nat) : (matchesN x s n).length ≤ n * 54571 := by
  have := flatMap_len (f := matchesE x s) (B := 54571) (List.range n) (fun q _ => matchesE_len x s hn hm q)
  rwa [List.length_range] at this
theorem tooMany_no {x : Lexicon} (h : tooMany x = false) : x.entries.length ≤ 200 ∧ x.endings.length ≤ 40 ∧ x.clitics.length ≤ 10 := by
  simp [tooMany] at h; omega
def skipP (x : Lexicon) (e : Entry) (p : Int) : Bool := decide (0 ≤ p) && (match x.endings[p.toNat]? with
  | some g => decide (g.kind ≠ e.kind)
  | none => false)
theorem skipP_eq (x : Lexicon) (e : Entry) {p : Int} (h : -1 ≤ p) : skipB x e (p + 1).toNat = skipP x e p := by
  unfold skipB skipP
  rw [show (p + 1).toNat - 1 = p.toNat by omega, show decide (0 < (p + 1).toNat) = decide (0 ≤ p) by simp; omega]
theorem matchesTo_next {x : Lexicon} {s : ByteArray} {i : Nat} {e : Entry} {p : Int} (h : -1 ≤ p) : matchesTo x s i e (p + 1 + 1).toNat = matchesTo x s i e (p + 1).toNat ++ matchesQ x s i e (p + 1).toNat := by
  rw [show (p + 1 + 1).toNat = (p + 1).toNat + 1 by omega, matchesTo_succ]
theorem matchesQ_skip {x : Lexicon} {s : ByteArray} {i : Nat} {e : Entry} {p : Int} (h : -1 ≤ p) (hs : skipP x e p = true) : matchesQ x s i e (p + 1).toNat = [] := by
  rw [matchesQ, skipP_eq x e h, if_pos hs]
theorem matchesQ_no {x : Lexicon} {s : ByteArray} {i : Nat} {e : Entry} {p : Int} (h : -1 ≤ p) (hs : skipP x e p = false) (hp : pre s 0 (stemV x ⟨(i : Int), p, []⟩) = false) : matchesQ x s i e (p + 1).toNat = [] := by
  rw [matchesQ, skipP_eq x e h, if_neg (by simp [hs]), show (((p + 1).toNat : Nat) : Int) - 1 = p by omega, if_neg (by simp [hp])]
theorem matchesQ_yes {x : Lexicon} {s : ByteArray} {i : Nat} {e : Entry} {p : Int} (h : -1 ≤ p) (hs : skipP x e p = false) (hp : pre s 0 (stemV x ⟨(i : Int), p, []⟩) = true) : matchesQ x s i e (p + 1).toNat = leanF x s 3 ⟨(i : Int), p, [], (stemV x ⟨(i : Int), p, []⟩).size⟩ 0 := by
  rw [matchesQ, skipP_eq x e h, if_neg (by simp [hs]), show (((p + 1).toNat : Nat) : Int) - 1 = p by omega, if_pos hp]
end Lx
namespace Go.Proofs.YtkmimjngmfdpmaaGreatDoor
open Go.RowKit





theorem pre_eq0 (s : ByteArray) (p : ByteArray) : Lib.hasPrefix s.data.toList p.data.toList = Lx.pre s 0 p := rfl
theorem rdm_new {w : World} {base : Nat} {g : Option Nat} (e n : Int) (k : Nat) : RdM w base g (.agg #[.int .i64 e, .int .i64 n, .slice none 0 0, .int .i64 k]) ⟨e, n, [], k⟩ :=
  ⟨none, 0, rfl, none, 0, rfl, by simp, by simp, fun h => absurd h (by simp)⟩
theorem rdf_new {w : World} {B : Nat} (e n : Int) : RdF w B (.agg #[.int .i64 e, .int .i64 n, .slice none 0 0]) ⟨e, n, []⟩ :=
  ⟨⟨_, rfl, none, 0, rfl, by simp, by simp, fun h => absurd h (by simp)⟩⟩


end Go.Proofs.YtkmimjngmfdpmaaGreatDoor
