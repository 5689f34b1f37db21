/- Matches: plain notions. All matches of a line: plain notions. The weight of a form: plain notions. Least and CompareForms: plain notions. How data lie in memory. -/
import Derived.Test.YtpmfjndbckblfaaDoorMgGlossPlain
import Derived.Lib.Strings
import Derived.Test.YtpmfjndbckblfaaDoorProg
import Derived.WalkKit
import Derived.WalkLawsBesides
import Derived.WalkSpells
import Derived.Lib.Hide
namespace Lx
structure Match where
  entry : Int
  ending : Int
  clitics : List Int
  long : Nat
/-- p begins s from place k on -/
def pre (s : ByteArray) (k : Nat) (p : ByteArray) : Bool := p.data.toList.isPrefixOf (s.data.toList.drop k)
theorem pre_size {s : ByteArray} {k : Nat} {p : ByteArray} (h : pre s k p = true) (hk : k ≤ s.size := by omega) : k + p.size ≤ s.size := by
  have h1 := (List.isPrefixOf_iff_prefix.1 h).length_le
  rw [List.length_drop] at h1
  have e1 : p.data.toList.length = p.size := rfl
  have e2 : s.data.toList.length = s.size := rfl
  omega
def stemV (x : Lexicon) (f : Form) : ByteArray :=
  match x.entries[f.entry.toNat]? with
  | none => ⟨#[]⟩
  | some e => if f.ending < 0 then e.root else match x.endings[f.ending.toNat]? with
    | some g => e.root ++ g.text
    | none => e.root
/-- entry and ending of a form are there -/
structure Fits (x : Lexicon) (f : Form) : Prop where
  ent : 0 ≤ f.entry ∧ f.entry < x.entries.length
  fin : f.ending < 0 ∨ (0 ≤ f.ending ∧ f.ending < x.endings.length)
theorem Valid.fits {x : Lexicon} {f : Form} (h : Valid x f) : Fits x f := ⟨h.ent, h.fin.imp (fun q => by omega) id⟩
/-- a match, and those with more clitics from a number on -/
def leanF (x : Lexicon) (s : ByteArray) : Nat → Match → Nat → List Match
  | 0, m, _ => [m]
  | fuel + 1, m, first => m :: (if m.clitics.length = 3 then [] else
      (List.range' first (x.clitics.length - first)).flatMap fun c => match x.clitics[c]? with
        | some g => if pre s m.long g.text then leanF x s fuel ⟨m.entry, m.ending, m.clitics ++ [(c : Int)], m.long + g.text.size⟩ (c + 1) else []
        | none => [])
theorem flatMap_len {α β : Type} {f : α → List β} {B : Nat} : ∀ (l : List α), (∀ a ∈ l, (f a).length ≤ B) → (l.flatMap f).length ≤ l.length * B
  | [], _ => by simp
  | a :: r, h => by
    rw [List.flatMap_cons, List.length_append, List.length_cons, Nat.succ_mul]
    have h1 := h a (by simp)
    have h2 := flatMap_len r (fun b hb => h b (by simp [hb]))
    omega
theorem leanF_len (x : Lexicon) (s : ByteArray) (hn : x.clitics.length ≤ 10) : ∀ (fuel : Nat) (m : Match) (first : Nat), (leanF x s fuel m first).length ≤ 11 ^ fuel
  | 0, m, first => by simp [leanF]
  | fuel + 1, m, first => by
    unfold leanF
    rw [List.length_cons]
    split
    · simp only [List.length_nil]
      have : 0 < 11 ^ (fuel + 1) := Nat.pow_pos (by omega)
      omega
    · have h := flatMap_len (B := 11 ^ fuel) (f := fun c => match x.clitics[c]? with
        | some g => if pre s m.long g.text then leanF x s fuel ⟨m.entry, m.ending, m.clitics ++ [(c : Int)], m.long + g.text.size⟩ (c + 1) else []
        | none => []) (List.range' first (x.clitics.length - first)) (fun c _ => by
          split
          · split
            · exact leanF_len x s hn fuel _ _
            · simp
          · simp)
      rw [List.length_range'] at h
      have h1 : (x.clitics.length - first) * 11 ^ fuel ≤ 10 * 11 ^ fuel := Nat.mul_le_mul_right _ (by omega)
      have h2 : 0 < 11 ^ fuel := Nat.pow_pos (by omega)
      rw [Nat.pow_succ]
      omega
/-- what one more clitic brings -/
def leanC (x : Lexicon) (s : ByteArray) (k : Nat) (m : Match) (c : Nat) : List Match := match x.clitics[c]? with
  | some g => if pre s m.long g.text then leanF x s k ⟨m.entry, m.ending, m.clitics ++ [(c : Int)], m.long + g.text.size⟩ (c + 1) else []
  | none => []
theorem leanF_succ {x : Lexicon} {s : ByteArray} {k : Nat} {m : Match} {first : Nat} (h : ¬ m.clitics.length = 3) : leanF x s (k + 1) m first = m :: (List.range' first (x.clitics.length - first)).flatMap (leanC x s k m) := by
  rw [leanF, if_neg h]; rfl
theorem leanC_len (x : Lexicon) (s : ByteArray) (hn : x.clitics.length ≤ 10) (k : Nat) (m : Match) (c : Nat) : (leanC x s k m c).length ≤ 11 ^ k := by
  unfold leanC
  split
  · split
    · exact leanF_len x s hn k _ _
    · simp
  · simp
def leanTo (x : Lexicon) (s : ByteArray) (k : Nat) (m : Match) (first j : Nat) : List Match := (List.range' first (j - first)).flatMap (leanC x s k m)
theorem leanTo_self (x : Lexicon) (s : ByteArray) (k : Nat) (m : Match) (first : Nat) : leanTo x s k m first first = [] := by simp [leanTo]
theorem leanTo_succ {x : Lexicon} {s : ByteArray} {k : Nat} {m : Match} {first j : Nat} (h : first ≤ j) : leanTo x s k m first (j + 1) = leanTo x s k m first j ++ leanC x s k m j := by
  unfold leanTo
  rw [show j + 1 - first = (j - first) + 1 by omega, List.range'_concat, List.flatMap_append]
  simp [show first + (j - first) = j by omega]
theorem leanTo_len (x : Lexicon) (s : ByteArray) (hn : x.clitics.length ≤ 10) (k : Nat) (m : Match) (first j : Nat) : (leanTo x s k m first j).length ≤ (j - first) * 11 ^ k := by
  have := flatMap_len (f := leanC x s k m) (B := 11 ^ k) (List.range' first (j - first)) (fun c _ => leanC_len x s hn k m c)
  rwa [List.length_range'] at this
end Lx
namespace Lx
/-- is the q-th ending (0: none) of another kind than the entry? -/
def skipB (x : Lexicon) (e : Entry) (q : Nat) : Bool := decide (0 < q) && (match x.endings[q - 1]? with
  | some g => decide (g.kind ≠ e.kind)
  | none => false)
/-- the forms of entry i with the q-th ending (0: none) whose sounds begin s -/
def matchesQ (x : Lexicon) (s : ByteArray) (i : Nat) (e : Entry) (q : Nat) : List Match :=
  if skipB x e q = true then []
  else if pre s 0 (stemV x ⟨(i : Int), (q : Int) - 1, []⟩) then leanF x s 3 ⟨(i : Int), (q : Int) - 1, [], (stemV x ⟨(i : Int), (q : Int) - 1, []⟩).size⟩ 0 else []
def matchesTo (x : Lexicon) (s : ByteArray) (i : Nat) (e : Entry) (n : Nat) : List Match := (List.range n).flatMap (matchesQ x s i e)
def matchesE (x : Lexicon) (s : ByteArray) (i : Nat) : List Match := match x.entries[i]? with
  | some e => if pre s 0 e.root then matchesTo x s i e (x.endings.length + 1) else []
  | none => []
def matchesN (x : Lexicon) (s : ByteArray) (n : Nat) : List Match := (List.range n).flatMap (matchesE x s)
def matchesV (x : Lexicon) (s : ByteArray) : List Match := matchesN x s x.entries.length
theorem matchesTo_zero (x : Lexicon) (s : ByteArray) (i : Nat) (e : Entry) : matchesTo x s i e 0 = [] := rfl
theorem matchesTo_succ (x : Lexicon) (s : ByteArray) (i : Nat) (e : Entry) (n : Nat) : matchesTo x s i e (n + 1) = matchesTo x s i e n ++ matchesQ x s i e n := by
  simp [matchesTo, List.range_succ, List.flatMap_append]
theorem matchesN_zero (x : Lexicon) (s : ByteArray) : matchesN x s 0 = [] := rfl
theorem matchesN_succ (x : Lexicon) (s : ByteArray) (n : Nat) : matchesN x s (n + 1) = matchesN x s n ++ matchesE x s n := by
  simp [matchesN, List.range_succ, List.flatMap_append]
theorem matchesE_yes {x : Lexicon} {s : ByteArray} {i : Nat} {e : Entry} (he : x.entries[i]? = some e) (hp : pre s 0 e.root = true) : matchesE x s i = matchesTo x s i e (x.endings.length + 1) := by
  simp [matchesE, he, hp]
theorem matchesE_no {x : Lexicon} {s : ByteArray} {i : Nat} {e : Entry} (he : x.entries[i]? = some e) (hp : pre s 0 e.root = false) : matchesE x s i = [] := by
  simp [matchesE, he, hp]
theorem matchesQ_len (x : Lexicon) (s : ByteArray) (hn : x.clitics.length ≤ 10) (i : Nat) (e : Entry) (q : Nat) : (matchesQ x s i e q).length ≤ 1331 := by
  unfold matchesQ
  split
  · simp
  · split
    · exact leanF_len x s hn 3 _ _
    · simp
theorem matchesTo_len (x : Lexicon) (s : ByteArray) (hn : x.clitics.length ≤ 10) (i : Nat) (e : Entry) (n : Nat) : (matchesTo x s i e n).length ≤ n * 1331 := by
  have := flatMap_len (f := matchesQ x s i e) (B := 1331) (List.range n) (fun q _ => matchesQ_len x s hn i e q)
  rwa [List.length_range] at this
theorem matchesE_len (x : Lexicon) (s : ByteArray) (hn : x.clitics.length ≤ 10) (hm : x.endings.length ≤ 40) (i : Nat) : (matchesE x s i).length ≤ 54571 := by
  unfold matchesE
  split
  · split
    · have := matchesTo_len x s hn i ‹_› (x.endings.length + 1); omega
    · simp
  · simp
theorem matchesN_len (x : Lexicon) (s : ByteArray) (hn : x.clitics.length ≤ 10) (hm : x.endings.length ≤ 40) (n : Nat) : (matchesN x s n).length ≤ n * 54571 := by
  have := flatMap_len (f := matchesE x s) (B := 54571) (List.range n) (fun q _ => matchesE_len x s hn hm q)
  rwa [List.length_range] at this
theorem tooMany_no {x : Lexicon} (h : tooMany x = false) : x.entries.length ≤ 200 ∧ x.endings.length ≤ 40 ∧ x.clitics.length ≤ 10 := by
  simp [tooMany] at h; omega
def skipP (x : Lexicon) (e : Entry) (p : Int) : Bool := decide (0 ≤ p) && (match x.endings[p.toNat]? with
  | some g => decide (g.kind ≠ e.kind)
  | none => false)
theorem skipP_eq (x : Lexicon) (e : Entry) {p : Int} (h : -1 ≤ p) : skipB x e (p + 1).toNat = skipP x e p := by
  unfold skipB skipP
  rw [show (p + 1).toNat - 1 = p.toNat by omega, show decide (0 < (p + 1).toNat) = decide (0 ≤ p) by simp; omega]
theorem matchesTo_next {x : Lexicon} {s : ByteArray} {i : Nat} {e : Entry} {p : Int} (h : -1 ≤ p) : matchesTo x s i e (p + 1 + 1).toNat = matchesTo x s i e (p + 1).toNat ++ matchesQ x s i e (p + 1).toNat := by
  rw [show (p + 1 + 1).toNat = (p + 1).toNat + 1 by omega, matchesTo_succ]
theorem matchesQ_skip {x : Lexicon} {s : ByteArray} {i : Nat} {e : Entry} {p : Int} (h : -1 ≤ p) (hs : skipP x e p = true) : matchesQ x s i e (p + 1).toNat = [] := by
  rw [matchesQ, skipP_eq x e h, if_pos hs]
theorem matchesQ_no {x : Lexicon} {s : ByteArray} {i : Nat} {e : Entry} {p : Int} (h : -1 ≤ p) (hs : skipP x e p = false) (hp : pre s 0 (stemV x ⟨(i : Int), p, []⟩) = false) : matchesQ x s i e (p + 1).toNat = [] := by
  rw [matchesQ, skipP_eq x e h, if_neg (by simp [hs]), show (((p + 1).toNat : Nat) : Int) - 1 = p by omega, if_neg (by simp [hp])]
theorem matchesQ_yes {x : Lexicon} {s : ByteArray} {i : Nat} {e : Entry} {p : Int} (h : -1 ≤ p) (hs : skipP x e p = false) (hp : pre s 0 (stemV x ⟨(i : Int), p, []⟩) = true) : matchesQ x s i e (p + 1).toNat = leanF x s 3 ⟨(i : Int), p, [], (stemV x ⟨(i : Int), p, []⟩).size⟩ 0 := by
  rw [matchesQ, skipP_eq x e h, if_neg (by simp [hs]), show (((p + 1).toNat : Nat) : Int) - 1 = p by omega, if_pos hp]
end Lx
namespace Lx
def weighC (x : Lexicon) (c : Int) : Int := match x.clitics[c.toNat]? with
  | some g => g.weight
  | none => 0
def weighCs (x : Lexicon) : List Int → Int
  | [] => 0
  | c :: r => weighC x c + weighCs x r
def weighE (x : Lexicon) (f : Form) (n : Int) : Int := if f.ending < 0 then n else match x.endings[f.ending.toNat]? with
  | some g => n + g.weight
  | none => n
def heavyV (x : Lexicon) (f : Form) : Int := match x.entries[f.entry.toNat]? with
  | some e => weighE x f e.weight + weighCs x f.clitics
  | none => 0
/-- entry, ending and clitics of a form are there -/
structure FitsC (x : Lexicon) (f : Form) : Prop extends Fits x f where
  few : f.clitics.length ≤ 3
  cl : ∀ (k : Nat) (c : Int), f.clitics[k]? = some c → 0 ≤ c ∧ c < x.clitics.length
theorem Valid.fitsC {x : Lexicon} {f : Form} (h : Valid x f) : FitsC x f := { toFits := h.fits, few := h.few, cl := h.cl }
theorem weighE_le {x : Lexicon} {f : Form} {n : Int} (hg : good Ending.ok Ending.same x.endings = true) : n ≤ weighE x f n ∧ weighE x f n ≤ n + 1000 := by
  unfold weighE
  split
  · omega
  · split
    · rename_i g h
      have := ok_ending (good_at hg h)
      omega
    · omega
theorem weighCs_le {x : Lexicon} (hg : good Clitic.ok Clitic.same x.clitics = true) : ∀ (l : List Int), 0 ≤ weighCs x l ∧ weighCs x l ≤ 1000 * l.length
  | [] => by simp [weighCs]
  | c :: r => by
    have h := weighCs_le hg r
    have h1 : 0 ≤ weighC x c ∧ weighC x c ≤ 1000 := by
      unfold weighC
      split
      · rename_i g h
        have := ok_clitic (good_at hg h)
        omega
      · omega
    simp only [weighCs, List.length_cons]
    omega
theorem heavyV_le {x : Lexicon} {f : Form} (h : checkV x = 0) (hf : f.clitics.length ≤ 3) : 0 ≤ heavyV x f ∧ heavyV x f ≤ 5000 := by
  obtain ⟨_, h1, h2, h3⟩ := check_parts h
  unfold heavyV
  split
  · rename_i e he
    have a := ok_entry (good_at h1 he)
    have b := weighE_le (f := f) (n := e.weight) h2
    have c := weighCs_le h3 f.clitics
    omega
  · omega
end Lx
namespace Lx
/-- the first of the lightest -/
def lighter (x : Lexicon) (b f : Form) : Form := if heavyV x f < heavyV x b then f else b
def leastL (x : Lexicon) (b : Form) (l : List Form) : Form := l.foldl (lighter x) b
theorem leastL_succ {x : Lexicon} {b f : Form} {l : List Form} {k : Nat} (h : l[k]? = some f) : leastL x b (l.take (k + 1)) = lighter x (leastL x b (l.take k)) f := by
  obtain ⟨hb, rfl⟩ := List.getElem?_eq_some_iff.1 h
  unfold leastL
  rw [List.take_succ_eq_append_getElem hb, List.foldl_append]
  rfl
theorem leastL_self {x : Lexicon} {b : Form} {l : List Form} : leastL x b (b :: l) = leastL x b l := by
  unfold leastL
  rw [List.foldl_cons]
  congr 1
  unfold lighter
  simp
theorem leastL_mem {x : Lexicon} : ∀ (l : List Form) (b : Form), leastL x b l = b ∨ leastL x b l ∈ l
  | [], b => .inl rfl
  | f :: r, b => by
    show leastL x (lighter x b f) r = b ∨ leastL x (lighter x b f) r ∈ f :: r
    rcases leastL_mem r (lighter x b f) with h | h
    · rw [h]
      unfold lighter
      split
      · exact .inr (by simp)
      · exact .inl rfl
    · exact .inr (by simp [h])
/-- the order of forms, asq a number -/
def cmpL : List Int → List Int → Int
  | a :: asq, b :: bs => if a = b then cmpL asq bs else a - b
  | asq, bs => (asq.length : Int) - bs.length
def cmpF (a b : Form) : Int := if a.entry = b.entry then (if a.ending = b.ending then cmpL a.clitics b.clitics else a.ending - b.ending) else a.entry - b.entry
theorem cmpL_drop {asq bs : List Int} {i : Nat} {a b : Int} (ha : asq[i]? = some a) (hb : bs[i]? = some b) : cmpL (asq.drop i) (bs.drop i) = if a = b then cmpL (asq.drop (i + 1)) (bs.drop (i + 1)) else a - b := by
  obtain ⟨h1, rfl⟩ := List.getElem?_eq_some_iff.1 ha
  obtain ⟨h2, rfl⟩ := List.getElem?_eq_some_iff.1 hb
  rw [List.drop_eq_getElem_cons h1, List.drop_eq_getElem_cons h2, cmpL]
theorem cmpL_end {asq bs : List Int} {i : Nat} (hi : i ≤ asq.length) (hi2 : i ≤ bs.length) (h : asq.length ≤ i ∨ bs.length ≤ i) : cmpL (asq.drop i) (bs.drop i) = (asq.length : Int) - bs.length := by
  rcases h with h | h
  · rw [List.drop_eq_nil_of_le h]
    cases hb : bs.drop i with
    | nil =>
      have := congrArg List.length hb
      rw [List.length_drop, List.length_nil] at this
      simp [cmpL]; omega
    | cons b r =>
      have := congrArg List.length hb
      rw [List.length_drop, List.length_cons] at this
      simp [cmpL]; omega
  · rw [List.drop_eq_nil_of_le h]
    cases hb : asq.drop i with
    | nil =>
      have := congrArg List.length hb
      rw [List.length_drop, List.length_nil] at this
      simp [cmpL]; omega
    | cons b r =>
      have := congrArg List.length hb
      rw [List.length_drop, List.length_cons] at this
      simp [cmpL]; omega
theorem cmpL_zero : ∀ {asq bs : List Int}, cmpL asq bs = 0 ↔ asq = bs
  | [], [] => by simp [cmpL]
  | [], b :: bs => by simp [cmpL]; omega
  | a :: asq, [] => by simp [cmpL]; omega
  | a :: asq, b :: bs => by
    rw [cmpL]
    split
    · rename_i h
      rw [cmpL_zero]
      simp [h]
    · rename_i h
      simp [h]
      omega
theorem cmpF_zero {a b : Form} : cmpF a b = 0 ↔ a = b := by
  obtain ⟨a1, a2, a3⟩ := a
  obtain ⟨b1, b2, b3⟩ := b
  unfold cmpF
  simp only [Form.mk.injEq]
  split
  · rename_i h
    split
    · rename_i h2
      rw [cmpL_zero]
      simp [h, h2]
    · rename_i h2
      simp [h, h2]
      omega
  · rename_i h
    simp [h]
    omega
instance : DecidableEq Form := fun a b => decidable_of_iff (cmpF a b = 0) cmpF_zero
end Lx
namespace Go.Proofs.YtpmfjndbckblfaaDoor
open Go.RowKit

theorem bcell {B : Nat} {W w1 : World} (hb : Below B W w1) : (∀ b o, b < B → w1.cell? ⟨b, o, none⟩ = W.cell? ⟨b, o, none⟩) ∧ (∀ b o, b < B → w1.frozen? ⟨b, o, none⟩ = W.frozen? ⟨b, o, none⟩) :=
  ⟨fun b o h => hb.cell (p := ⟨b, o, none⟩) h, fun b o h => hb.frozen (p := ⟨b, o, none⟩) h⟩

/-- The slice value v holds the rows of xs (each of 'size' cells), below block B. -/
def RdS {α : Type} (w : World) (B size : Nat) (enc : α → List Value) (v : Value) (xs : List α) : Prop :=
  ∃ A c, v = .slice A xs.length c ∧ xs.length ≤ c ∧ c ≤ 9223372036854775807 ∧
    (0 < xs.length → ∃ b off, A = some ⟨b, off, none⟩ ∧ b < B ∧ ∀ i x, xs[i]? = some x → ∀ j u, (enc x)[j]? = some u → w.cell? ⟨b, off + i * size + j, none⟩ = some u)

section
variable {α : Type} {w w' : World} {B B' size : Nat} {enc : α → List Value} {v : Value} {xs : List α}
theorem RdS.keep (h : RdS w B size enc v xs) (hk : ∀ p : Addr, p.block < B → w'.cell? p = w.cell? p) : RdS w' B size enc v xs := by
  obtain ⟨A, c, hv, hl, hc, hh⟩ := h
  refine ⟨A, c, hv, hl, hc, fun h0 => ?_⟩
  obtain ⟨b, off, hA, hb, hcell⟩ := hh h0
  exact ⟨b, off, hA, hb, fun i x hx j u hu => (hk _ hb).trans (hcell i x hx j u hu)⟩
theorem RdS.below (h : RdS w B size enc v xs) (hb : Below B w w') : RdS w' B size enc v xs := h.keep fun _ hp => hb.cell hp
theorem RdS.more (h : RdS w B size enc v xs) (hB : B ≤ B') : RdS w B' size enc v xs := by
  obtain ⟨A, c, hv, hl, hc, hh⟩ := h
  refine ⟨A, c, hv, hl, hc, fun h0 => ?_⟩
  obtain ⟨b, off, hA, hb, hcell⟩ := hh h0
  exact ⟨b, off, hA, by omega, hcell⟩
end

def encEntry (e : Lx.Entry) : List Value := [.string e.root, .int .i64 e.kind, .string e.cls, .int .i64 e.weight]
def encEnding (e : Lx.Ending) : List Value := [.int .i64 e.kind, .string e.text, .string e.name, .int .i64 e.weight]
def encClitic (e : Lx.Clitic) : List Value := [.string e.text, .string e.name, .int .i64 e.weight]
def encInt (n : Int) : List Value := [.int .i64 n]

/-- strings and numbers within what the machine holds -/
def Lx.Entry.fits (e : Lx.Entry) : Prop := e.root.size ≤ maxLen ∧ e.cls.size ≤ maxLen
def Lx.Ending.fits (e : Lx.Ending) : Prop := e.text.size ≤ maxLen ∧ e.name.size ≤ maxLen
def Lx.Clitic.fits (e : Lx.Clitic) : Prop := e.text.size ≤ maxLen ∧ e.name.size ≤ maxLen

structure RdL (w : World) (B : Nat) (v : Value) (x : Lx.Lexicon) : Prop where
  ex : ∃ v0 v1 v2, v = .agg #[v0, v1, v2] ∧ RdS w B 4 encEntry v0 x.entries ∧ RdS w B 4 encEnding v1 x.endings ∧ RdS w B 3 encClitic v2 x.clitics
  fe : ∀ e ∈ x.entries, Lx.Entry.fits e
  fn : ∀ e ∈ x.endings, Lx.Ending.fits e
  fc : ∀ e ∈ x.clitics, Lx.Clitic.fits e
theorem RdL.keep {w w' : World} {B : Nat} {v : Value} {x : Lx.Lexicon} (h : RdL w B v x) (hk : ∀ p : Addr, p.block < B → w'.cell? p = w.cell? p) : RdL w' B v x := by
  obtain ⟨⟨v0, v1, v2, hv, h0, h1, h2⟩, a, b, c⟩ := h
  exact ⟨⟨v0, v1, v2, hv, h0.keep hk, h1.keep hk, h2.keep hk⟩, a, b, c⟩
theorem RdL.below {w w' : World} {B : Nat} {v : Value} {x : Lx.Lexicon} (h : RdL w B v x) (hb : Below B w w') : RdL w' B v x := h.keep fun _ hp => hb.cell hp
theorem RdL.more {w : World} {B B' : Nat} {v : Value} {x : Lx.Lexicon} (h : RdL w B v x) (hB : B ≤ B') : RdL w B' v x := by
  obtain ⟨⟨v0, v1, v2, hv, h0, h1, h2⟩, a, b, c⟩ := h
  exact ⟨⟨v0, v1, v2, hv, h0.more hB, h1.more hB, h2.more hB⟩, a, b, c⟩
/-- a form -/
structure RdF (w : World) (B : Nat) (v : Value) (f : Lx.Form) : Prop where
  ex : ∃ s, v = .agg #[.int .i64 f.entry, .int .i64 f.ending, s] ∧ RdS w B 1 encInt s f.clitics
theorem RdF.keep {w w' : World} {B : Nat} {v : Value} {f : Lx.Form} (h : RdF w B v f) (hk : ∀ p : Addr, p.block < B → w'.cell? p = w.cell? p) : RdF w' B v f := by
  obtain ⟨⟨s, hv, h0⟩⟩ := h
  exact ⟨⟨s, hv, h0.keep hk⟩⟩
theorem RdF.below {w w' : World} {B : Nat} {v : Value} {f : Lx.Form} (h : RdF w B v f) (hb : Below B w w') : RdF w' B v f := h.keep fun _ hp => hb.cell hp
theorem RdF.more {w : World} {B B' : Nat} {v : Value} {f : Lx.Form} (h : RdF w B v f) (hB : B ≤ B') : RdF w B' v f := by
  obtain ⟨⟨s, hv, h0⟩⟩ := h
  exact ⟨⟨s, hv, h0.more hB⟩⟩
end Go.Proofs.YtpmfjndbckblfaaDoor
