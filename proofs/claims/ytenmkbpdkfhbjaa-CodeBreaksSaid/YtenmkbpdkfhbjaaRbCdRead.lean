/- How the reference reads a gloss: what its loops keep. Plain law.; A text in pieces, and numbers in it: plain law.; Sign lists as text: plain notions, and that cutting and splitting say the same.; A sign list's text: what both sides make of it: plain law.; Names of signs: plain notions, and that a number is its digits.; Names of the signs of a valid list: plain law.; What a sign list is as text, .. -/
import Derived.Test.YtenmkbpdkfhbjaaRbIdle
import Derived.Test.YtenmkbpdkfhbjaaRbSgPlain
import Derived.Lib.ItoaNum
import Derived.Lib.Small
import Derived.Lib.ItoaLen
import Derived.Test.YtenmkbpdkfhbjaaRbCdRep
namespace Lx
open Go


/-- what the third loop keeps -/
structure OnF (x : Lexicon) (s : ByteArray) (i k c : Nat) (f : Form) : Prop where
  ent : f.entry = (i : Int)
  fin : f.ending = (k : Int) - 1
  val : formV x f = 0
  low : ∀ a ∈ f.clitics, a < (c : Int)
  way : ∀ g, formV x g = 0 → glossV x g = s → g.entry = (i : Int) → g.ending = (k : Int) - 1 → OnWay g f c
theorem OnF.few {x : Lexicon} {s : ByteArray} {i k c : Nat} {f : Form} (h : OnF x s i k c f) : f.clitics.length ≤ 3 := (valid_of h.val).few
theorem read_form {x : Lexicon} {s : ByteArray} {f : Form} (hf : formV x f = 0) (hs : s = glossV x f) : ReadG x s f 0 := .inr ⟨(valid_of hf).chk, .inl ⟨rfl, hf, hs.symm⟩⟩
end Lx
namespace Lx
/-- the value of digits -/
def digV (l : List UInt8) : Int := l.foldl (fun n b => 10 * n + ((b.toNat : Int) - 48)) 0
def digB (b : UInt8) : Bool := decide (48 ≤ b.toNat) && decide (b.toNat ≤ 57)
/-- whether a text is a number of one to most digits -/
def numB (l : List UInt8) (most : Int) : Bool := decide (1 ≤ l.length) && decide ((l.length : Int) ≤ most) && !(decide (l[0]? = some 48) && decide (1 < l.length)) && l.all digB
def numV (l : List UInt8) (most : Int) : Int := if numB l most = true then digV l else 0
end Lx
namespace Sg
open Go

/-- two numbers with a byte between them -/
def twoV (t : List UInt8) (c : UInt8) : Option (Int × Int) := match Lib.split t [c] with
  | [a, b] => if Lx.numB a 3 = true ∧ Lx.numB b 3 = true then some (Lx.numV a 3, Lx.numV b 3) else none
  | _ => none
/-- no blank, no at, no colon, and something -/
def looseB (t : List UInt8) : Bool := !decide (t = []) && t.all fun b => !decide (b = 32) && !decide (b = 64) && !decide (b = 58)
def kindOf (b : UInt8) : Int := if b = 115 then 1 else if b = 119 then 2 else if b = 99 then 3 else 0
structure VV where
  kind : Int
  text : List UInt8
  lo : Int
  hi : Int
def valV (t : List UInt8) : Option VV := match Lib.split t [64] with
  | [l0, l1] => match Lib.split l0 [58] with
    | [[k], m1] => if looseB m1 = true ∧ kindOf k ≠ 0 then (match twoV l1 45 with
      | some (a, b) => some ⟨kindOf k, m1, a, b⟩
      | none => none) else none
    | _ => none
  | _ => none
end Sg
namespace Sg
open Go
def bs (l : List UInt8) : ByteArray := ⟨l.toArray⟩
theorem bs_list (l : List UInt8) : (bs l).data.toList = l := rfl
def VV.value (v : VV) : Value := ⟨v.kind, bs v.text, v.lo, v.hi⟩
def valsOf (ws : List (List UInt8)) : List Value := ws.filterMap fun w => (valV w).map VV.value
def valsB (ws : List (List UInt8)) : Bool := ws.all fun w => (valV w).isSome
/-- the words behind the sizes: is there a mark -/
def marked (r : List (List UInt8)) : Bool := decide (r.head? = some [61])
def unmarked (r : List (List UInt8)) : List (List UInt8) := if marked r = true then r.tail else r
def signL (ws : List (List UInt8)) : Option Sign := match ws with
  | c :: z :: r => match twoV z 120 with
    | some (a, b) => if looseB c = true ∧ valsB (unmarked r) = true then some ⟨bs c, a, b, marked r, valsOf (unmarked r)⟩ else none
    | none => none
  | _ => none

/-- the first line -/
def perB : List UInt8 := [112, 101, 114, 105, 111, 100, 115]
def headV (t : List UInt8) : Option Int := match Lib.split t [32] with
  | [a, b] => if a = perB ∧ Lx.numB b 3 = true then some (Lx.numV b 3) else none
  | _ => none

def okLine (l : List (List UInt8)) (i : Nat) : Bool := match l[i]? with
  | some x => if i = 0 then (headV x).isSome else (signL (Lib.split x [32])).isSome
  | none => true
def badLine (l : List (List UInt8)) : Option Nat := (List.range l.length).find? fun i => !okLine l i
def periodsL (l : List (List UInt8)) : Int := match l[0]? with
  | some x => (headV x).getD 0
  | none => 0
def signsL (l : List (List UInt8)) : List Sign := l.tail.filterMap fun x => signL (Lib.split x [32])
def listL (l : List (List UInt8)) : SList := ⟨periodsL l, signsL l⟩
/-- what Parse makes of lines that have ended, and of what is left -/
def parseL (l : List (List UInt8)) (r : List UInt8) : SList × Int × Int :=
  match badLine l with
  | some i => (⟨0, []⟩, (i : Int) + 1, 4)
  | none => if r = [] ∧ l ≠ [] then (if checkV (listL l) = 0 then (listL l, 0, 0) else (⟨0, []⟩, 0, checkV (listL l))) else (⟨0, []⟩, (l.length : Int) + 1, 4)
theorem parse_bad {l : List (List UInt8)} {r : List UInt8} {k : Nat} (hk : k < l.length) (h : ∀ j, j < k → okLine l j = true) (h0 : okLine l k = false) : parseL l r = (⟨0, []⟩, (k : Int) + 1, 4) := by
  have : badLine l = some k := by
    unfold badLine
    obtain ⟨m, hm⟩ : ∃ m, l.length = k + (m + 1) := ⟨l.length - k - 1, by omega⟩
    rw [hm, List.range_add, List.find?_append]
    have e1 : (List.range k).find? (fun i => !okLine l i) = none := by
      rw [List.find?_eq_none]
      intro j hj
      rw [List.mem_range] at hj
      simp [h j hj]
    rw [e1, List.range_succ_eq_map]
    simp [h0]
  unfold parseL
  rw [this]
end Sg
namespace Sg
open Go
end Sg
namespace Sg
open Go
theorem check_sign {l : SList} (h : checkV l = 0) : (1 ≤ l.periods ∧ l.periods ≤ 9) ∧ l.signs.length ≤ 200 ∧ ∀ (i : Nat) (s : Sign), l.signs[i]? = some s → signV l.periods (l.signs.take i) s = 0 := by
  unfold checkV at h
  split at h
  · cases h
  · split at h
    · cases h
    · refine ⟨by omega, by omega, fun i s hs => ?_⟩
      have := firstE_ne h i (List.getElem?_eq_some_iff.1 hs).1
      rwa [signAt, hs] at this
theorem sign_parts {p : Int} {b : List Sign} {s : Sign} (h : signV p b s = 0) : codeB s.code = true ∧ b.any (fun t => decide (t.code = s.code)) = false ∧ ¬ sizeBad s ∧ s.values.length ≤ 12 ∧ valuesV p s.values = 0 := by
  unfold signV at h
  split at h
  · cases h
  · rename_i h1
    rw [not_or] at h1
    unfold bodyV at h
    split at h
    · cases h
    · split at h
      · cases h
      · exact ⟨by simpa using h1.1, by simpa using h1.2, by assumption, by omega, h⟩
theorem value_at {p : Int} {l : List Value} (h : valuesV p l = 0) {k : Nat} {v : Value} (hv : l[k]? = some v) : (1 ≤ v.kind ∧ v.kind ≤ 3 ∧ textB v.kind v.text = true) ∧ (1 ≤ v.lo ∧ v.lo ≤ v.hi ∧ v.hi ≤ p) ∧ (l.take k).any (meetB v) = false := by
  have h0 := firstE_ne h k (List.getElem?_eq_some_iff.1 hv).1
  rw [valueAt, hv] at h0
  simp only at h0
  unfold valueV at h0
  split at h0
  · cases h0
  · split at h0
    · cases h0
    · split at h0
      · cases h0
      · rename_i a b c
        rw [not_or, not_or] at a b
        exact ⟨⟨by omega, by omega, by simpa using a.2.2⟩, ⟨by omega, by omega, by omega⟩, by simpa using c⟩
end Sg
namespace Sg
open Go

/-- what is known of a value of a valid list -/
structure VFine (v : Value) : Prop where
  k : v.kind = 1 ∨ v.kind = 2 ∨ v.kind = 3
  t : textB v.kind v.text = true
  lo : 1 ≤ v.lo ∧ v.lo ≤ 9
  hi : 1 ≤ v.hi ∧ v.hi ≤ 9
structure SFine (s : Sign) : Prop where
  c : codeB s.code = true
  w : 1 ≤ s.wide ∧ s.wide ≤ 12
  h : 1 ≤ s.high ∧ s.high ≤ 12
  n : s.values.length ≤ 12
  vs : ∀ v ∈ s.values, VFine v
theorem fineS {l : SList} (h : checkV l = 0) : (1 ≤ l.periods ∧ l.periods ≤ 9) ∧ l.signs.length ≤ 200 ∧ ∀ s ∈ l.signs, SFine s := by
  obtain ⟨h1, h2, h3⟩ := check_sign h
  refine ⟨h1, h2, fun s hs => ?_⟩
  obtain ⟨i, hi⟩ := List.getElem?_of_mem hs
  obtain ⟨a, -, c, d, e⟩ := sign_parts (h3 i s hi)
  unfold sizeBad at c
  refine ⟨a, by omega, by omega, d, fun v hv => ?_⟩
  obtain ⟨k, hk⟩ := List.getElem?_of_mem hv
  obtain ⟨⟨v1, v2, v3⟩, ⟨v4, v5, v6⟩, -⟩ := value_at e hk
  exact ⟨by omega, v3, by omega, by omega⟩
theorem code_all {t : ByteArray} (h : codeB t = true) : (∀ b ∈ t.data.toList, alnum b = true) ∧ t.data.toList ≠ [] ∧ t.size ≤ 8 := by
  unfold codeB at h
  simp only [Bool.and_eq_true, decide_eq_true_eq] at h
  obtain ⟨⟨⟨h1, h2⟩, -⟩, h3⟩ := h
  have hlen : t.data.toList.length = t.size := rfl
  exact ⟨fun b hb => List.all_eq_true.1 h3 b hb, fun e => by rw [e] at hlen; simp at hlen; omega, h2⟩
end Sg
namespace Cd
open Go
open Tx
theorem upper_eq {c : UInt8} (h : Sg.upper c = true) : upperB c = true := by
  unfold Sg.upper at h
  unfold upperB
  simpa using h
theorem word_eq {c : UInt8} (h : Sg.alnum c = true) : wordB c = true := by
  unfold Sg.alnum Lx.letter Sg.digit at h
  unfold wordB upperB
  simp only [Bool.or_eq_true, Bool.and_eq_true, decide_eq_true_eq] at h ⊢
  rcases h with (h | h) | h
  · exact .inl (.inr h)
  · exact .inl (.inl h)
  · exact .inr h
theorem code_ok {t : ByteArray} (h : Sg.codeB t = true) : CodeOk t.data.toList := by
  obtain ⟨h1, h2, h3⟩ := Sg.code_all h
  refine ⟨h3, ?_⟩
  unfold Sg.codeB at h
  simp only [Bool.and_eq_true] at h
  have hu := h.1.2
  cases hl : t.data.toList with
  | nil => exact absurd hl h2
  | cons u w =>
    rw [hl] at hu
    refine ⟨u, w, rfl, upper_eq (by simpa using hu), fun b hb => word_eq (h1 b (by rw [hl]; simp [hb]))⟩
/-- what a node's own look says -/
theorem own_facts {l : Sg.SList} {b : Option Tx.Node} {n : Tx.Node} (h : ownV l b n = 0) :
    (n.kind = 1 → 0 ≤ n.sign ∧ n.sign < l.signs.length ∧ 0 ≤ n.turn ∧ n.turn ≤ 3 ∧ 0 ≤ n.state ∧ n.state ≤ 3 ∧ n.lo = 0 ∧ n.hi = 0) ∧
    (n.kind = 6 → 0 ≤ n.lo ∧ n.lo ≤ n.hi ∧ n.hi ≤ 9 ∧ 1 ≤ n.hi ∧ n.sign = 0 ∧ n.turn = 0 ∧ n.mirror = false ∧ n.state = 0) ∧
    (n.kind ≠ 1 → n.kind ≠ 6 → n.sign = 0 ∧ n.turn = 0 ∧ n.mirror = false ∧ n.state = 0 ∧ n.lo = 0 ∧ n.hi = 0) := by
  unfold ownV at h
  by_cases c1 : n.kind < 1 ∨ 7 < n.kind
  · rw [if_pos c1] at h; exact absurd h (by decide)
  rw [if_neg c1] at h
  by_cases c2 : n.depth < 0 ∨ 4 < n.depth ∨ most b < n.depth
  · rw [if_pos c2] at h; exact absurd h (by decide)
  rw [if_neg c2] at h
  by_cases k1 : n.kind = 1
  · rw [if_pos k1] at h
    by_cases c3 : n.sign < 0 ∨ (l.signs.length : Int) ≤ n.sign
    · rw [if_pos c3] at h; exact absurd h (by decide)
    rw [if_neg c3] at h
    by_cases c4 : n.turn < 0 ∨ 3 < n.turn ∨ n.state < 0 ∨ 3 < n.state ∨ (n.mirror = true ∧ evenAt l n.sign = true)
    · rw [if_pos c4] at h; exact absurd h (by decide)
    rw [if_neg c4] at h
    by_cases c5 : n.lo ≠ 0 ∨ n.hi ≠ 0
    · rw [if_pos c5] at h; exact absurd h (by decide)
    exact ⟨fun _ => by omega, fun e => by omega, fun e => absurd k1 e⟩
  rw [if_neg k1] at h
  by_cases k6 : n.kind = 6
  · rw [if_pos k6] at h
    by_cases c3 : n.lo < 0 ∨ n.hi < n.lo ∨ 9 < n.hi ∨ n.hi < 1
    · rw [if_pos c3] at h; exact absurd h (by decide)
    rw [if_neg c3] at h
    by_cases c4 : n.sign ≠ 0 ∨ n.turn ≠ 0 ∨ n.mirror = true ∨ n.state ≠ 0
    · rw [if_pos c4] at h; exact absurd h (by decide)
    have hm : n.mirror = false := by
      cases hm : n.mirror
      · rfl
      · exact absurd (.inr (.inr (.inl hm))) c4
    exact ⟨fun e => absurd e k1, fun _ => ⟨by omega, by omega, by omega, by omega, by omega, by omega, hm, by omega⟩, fun _ e => absurd k6 e⟩
  rw [if_neg k6] at h
  by_cases c4 : n.sign ≠ 0 ∨ n.turn ≠ 0 ∨ n.mirror = true ∨ n.state ≠ 0 ∨ n.lo ≠ 0 ∨ n.hi ≠ 0
  · rw [if_pos c4] at h; exact absurd h (by decide)
  have hm : n.mirror = false := by
    cases hm : n.mirror
    · rfl
    · exact absurd (.inr (.inr (.inl hm))) c4
  exact ⟨fun e => absurd e k1, fun e => absurd e k6, fun _ _ => ⟨by omega, by omega, hm, by omega, by omega, by omega⟩⟩
/-- a valid text -/
structure Valid (l : Sg.SList) (ns : List Tx.Node) : Prop where
  list : Sg.checkV l = 0
  own : ∀ i, i < ns.length → ownAt l ns i = 0
  fam : ∀ i, i < ns.length → famP ns i
theorem valid_of {l : Sg.SList} {ns : List Tx.Node} (h : checkT l ns = 0) : Valid l ns ∧ ns.length ≤ 200 := by
  unfold checkT at h
  by_cases c1 : Sg.checkV l ≠ 0
  · rw [if_pos c1] at h; exact absurd h c1
  rw [if_neg c1] at h
  by_cases c2 : 200 < ns.length
  · rw [if_pos c2] at h; exact absurd h (by decide)
  rw [if_neg c2] at h
  by_cases c3 : Sg.firstE (ownAt l ns) ns.length ≠ 0
  · rw [if_pos c3] at h; exact absurd h c3
  rw [if_neg c3] at h
  by_cases c4 : (List.range ns.length).all (famB ns) = true
  · exact ⟨⟨by simpa using c1, Sg.firstE_ne (by simpa using c3), fam_all.1 c4⟩, by omega⟩
  · rw [if_neg c4] at h; exact absurd h (by decide)
/-- what a code cannot say of a node -/
def lackB (kind : Int) (n : Tx.Node) : Bool := decide (kind = 2) && (decide (n.state ≠ 0) || decide (n.lo ≠ n.hi))
def lacksV (kind : Int) (ns : List Tx.Node) : List Int := ((List.range ns.length).filter fun i => lackB kind (nd ns i)).map Int.ofNat
end Cd
namespace Cd
open Go
open Tx
/-- the number of the sign with a code, or -1 -/
def signIx (l : Sg.SList) (c : List UInt8) : Int := match l.signs.findIdx? (fun s => decide (s.code.data.toList = c)) with
  | some i => (i : Int)
  | none => -1
theorem data_inj {a b : ByteArray} (h : a.data.toList = b.data.toList) : a = b := by
  have e : a.data = b.data := Array.toList_inj.1 h
  cases a; cases b
  simp only at e
  rw [e]
theorem ix_code {l : Sg.SList} (h : Sg.checkV l = 0) {k : Int} (h1 : 0 ≤ k) (h2 : k < l.signs.length) : signIx l (codeAt l k) = k := by
  obtain ⟨i, rfl⟩ := Int.eq_ofNat_of_zero_le h1
  have hi : i < l.signs.length := by omega
  have hs : l.signs[i]? = some l.signs[i] := List.getElem?_eq_getElem hi
  have hc : codeAt l (i : Int) = l.signs[i].code.data.toList := by
    unfold codeAt
    rw [Int.toNat_natCast, hs]
  rw [hc]
  unfold signIx
  have : l.signs.findIdx? (fun s => decide (s.code.data.toList = l.signs[i].code.data.toList)) = some i := by
    rw [List.findIdx?_eq_some_iff_getElem]
    refine ⟨hi, by simp, fun j hj => ?_⟩
    have hp := (Sg.sign_parts ((Sg.check_sign h).2.2 i _ hs)).2.1
    rw [List.any_eq_false] at hp
    intro e
    have hm : l.signs[j] ∈ l.signs.take i := List.mem_of_getElem? (i := j) (by rw [List.getElem?_take_of_lt hj]; exact List.getElem?_eq_getElem (by omega))
    exact hp _ hm (by simpa using data_inj (by simpa using e))
  rw [this]
/-- where the first code stands that the list has not -/
def unknownV (l : Sg.SList) (qs : List (List UInt8 × Nat)) : Option Nat := (qs.find? fun q => decide (signIx l q.1 = -1)).map (·.2)
/-- what Read returns: the nodes, the place, the error -/
def readV (kind : Int) (l : Sg.SList) (s : List UInt8) : List Tx.Node × Int × Int :=
  if kind ≠ 1 ∧ kind ≠ 2 then ([], 0, 1) else if Sg.checkV l ≠ 0 then ([], 0, Sg.checkV l) else if 65536 < s.length then ([], 0, 2) else
  match parseG s kind with
  | .bad k => ([], k, 4)
  | .ok xs _ => match unknownV l (codesL xs) with
    | some k => ([], k, 23)
    | none => if checkT l (flatL 0 (resL (signIx l) xs)) ≠ 0 then ([], 0, checkT l (flatL 0 (resL (signIx l) xs))) else (flatL 0 (resL (signIx l) xs), 0, 0)
/-- what Lacks and Write return -/
def lacksE (kind : Int) (l : Sg.SList) (ns : List Tx.Node) : Int := if kind ≠ 1 ∧ kind ≠ 2 then 1 else checkT l ns
end Cd
