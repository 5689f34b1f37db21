/- Sign lists as text: plain notions, and that cutting and splitting say the same.; A sign list's text: what both sides make of it: plain law. -/
import Derived.Test.YtkmimjngmfdpmaaGreatDoorMpRegion
import Derived.Test.YtkmimjngmfdpmaaGreatDoorMpTextPlain
namespace Sg
open Go
/-- a text at its first c: the pieces before and behind -/
theorem cut_split (c : UInt8) (l : List UInt8) : (∃ a, Lib.split l [c] = [a] ∧ a = l ∧ c ∉ l ∧ Lib.cut l [c] = (l, [], false)) ∨
    ∃ a b ws, Lib.split l [c] = a :: b :: ws ∧ c ∉ a ∧ c ∉ b ∧ l = a ++ c :: (b ++ ws.flatMap (c :: ·)) ∧ Lib.cut l [c] = (a, b ++ ws.flatMap (c :: ·), true) ∧ (ws = [] → Lib.split (b ++ ws.flatMap (c :: ·)) [c] = [b]) := by
  obtain ⟨a, ws, e1, e2, h3, h4⟩ := Lx.pst_join c l
  cases ws with
  | nil =>
    rw [List.flatMap_nil, List.append_nil] at e2
    subst e2
    exact .inl ⟨l, by rw [Lx.pst_split, e1], rfl, h3, Lx.cut_byte_none h3⟩
  | cons b ws =>
    rw [List.flatMap_cons, List.cons_append] at e2
    refine .inr ⟨a, b, ws, by rw [Lx.pst_split, e1], h3, h4 b (by simp), e2, ?_, fun h => ?_⟩
    · conv => lhs; rw [e2]
      exact Lx.cut_byte _ h3
    · subst h
      simpa using Lx.split_byte [] b (h4 b (by simp)) (by simp)
theorem split_two {c : UInt8} {a b : List UInt8} (h : c ∉ a) (h' : c ∉ b) : Lib.split (a ++ c :: b) [c] = [a, b] := by simpa using Lx.split_byte [b] a h (by simpa using h')

/-- two numbers with a byte between them -/
def twoV (t : List UInt8) (c : UInt8) : Option (Int × Int) := match Lib.split t [c] with
  | [a, b] => if Lx.numB a 3 = true ∧ Lx.numB b 3 = true then some (Lx.numV a 3, Lx.numV b 3) else none
  | _ => none
theorem num_clear {l : List UInt8} {c : UInt8} (hc : Lx.digB c = false) (h : c ∈ l) : Lx.numB l 3 = false := by
  unfold Lx.numB
  have : l.all Lx.digB = false := by
    rw [List.all_eq_false]
    exact ⟨c, h, by simp [hc]⟩
  rw [this]
  simp
/-- what the program makes of two numbers -/
def twoP (t : List UInt8) (c : UInt8) : Int × Int × Bool := (Lx.numV (Lib.cut t [c]).1 3, Lx.numV (Lib.cut t [c]).2.1 3, (Lib.cut t [c]).2.2 && Lx.numB (Lib.cut t [c]).1 3 && Lx.numB (Lib.cut t [c]).2.1 3)
theorem two_eq {t : List UInt8} {c : UInt8} (hc : Lx.digB c = false) : (twoP t c).2.2 = (twoV t c).isSome ∧ ∀ q, twoV t c = some q → q = ((twoP t c).1, (twoP t c).2.1) := by
  unfold twoP twoV
  rcases cut_split c t with ⟨a, h1, -, -, h2⟩ | ⟨a, b, ws, h1, -, -, -, h2, -⟩
  · rw [h1, h2]
    exact ⟨rfl, fun q h => by cases h⟩
  · rw [h1, h2]
    cases ws with
    | nil =>
      simp only [List.flatMap_nil, List.append_nil, Bool.true_and]
      by_cases h : Lx.numB a 3 = true ∧ Lx.numB b 3 = true
      · rw [if_pos h, h.1, h.2]
        exact ⟨rfl, fun q hq => by cases hq; rfl⟩
      · rw [if_neg h]
        refine ⟨?_, fun q hq => by cases hq⟩
        cases ha : Lx.numB a 3 <;> cases hb : Lx.numB b 3 <;> simp_all
    | cons d ws =>
      have hm : c ∈ b ++ (d :: ws).flatMap (c :: ·) := by simp
      simp only [num_clear hc hm, Bool.and_false]
      exact ⟨rfl, fun q hq => by cases hq⟩
/-- no blank, no at, no colon, and something -/
def looseB (t : List UInt8) : Bool := !decide (t = []) && t.all fun b => !decide (b = 32) && !decide (b = 64) && !decide (b = 58)
def kindOf (b : UInt8) : Int := if b = 115 then 1 else if b = 119 then 2 else if b = 99 then 3 else 0
structure VV where
  kind : Int
  text : List UInt8
  lo : Int
  hi : Int
def valV (t : List UInt8) : Option VV := match Lib.split t [64] with
  | [l0, l1] => match Lib.split l0 [58] with
    | [[k], m1] => if looseB m1 = true ∧ kindOf k ≠ 0 then (match twoV l1 45 with
      | some (a, b) => some ⟨kindOf k, m1, a, b⟩
      | none => none) else none
    | _ => none
  | _ => none
/-- what the program makes of a value -/
def valP (t : List UInt8) : Option VV :=
  let (kind, rest, found) := Lib.cut t [58]
  let (text, span, also) := Lib.cut rest [64]
  let (a, b, is) := twoP span 45
  if found = false ∨ also = false ∨ is = false ∨ kind.length ≠ 1 ∨ looseB text = false then none
  else if kindOf (kind[0]?.getD 0) = 0 then none else some ⟨kindOf (kind[0]?.getD 0), text, a, b⟩
theorem loose_mem {t : List UInt8} (h : looseB t = true) : (32 : UInt8) ∉ t ∧ (64 : UInt8) ∉ t ∧ (58 : UInt8) ∉ t := by
  unfold looseB at h
  rw [Bool.and_eq_true, List.all_eq_true] at h
  refine ⟨fun q => ?_, fun q => ?_, fun q => ?_⟩ <;> (have := h.2 _ q; simp at this)
theorem two_clear {t : List UInt8} {c d : UInt8} (hd : Lx.digB d = false) (hcd : d ≠ c) {q : Int × Int} (h : twoV t c = some q) : d ∉ t := by
  unfold twoV at h
  rcases cut_split c t with ⟨a, h1, -, -, h2⟩ | ⟨a, b, ws, h1, -, -, he, h2, -⟩
  · rw [h1] at h; cases h
  · rw [h1] at h
    cases ws with
    | cons d ws => cases h
    | nil =>
      simp only [List.flatMap_nil, List.append_nil] at h he
      by_cases hn : Lx.numB a 3 = true ∧ Lx.numB b 3 = true
      · intro hm
        rw [he] at hm
        rw [List.mem_append, List.mem_cons] at hm
        rcases hm with hm | hm | hm
        · rw [num_clear hd hm] at hn; cases hn.1
        · exact hcd hm
        · rw [num_clear hd hm] at hn; cases hn.2
      · rw [if_neg hn] at h; cases h
def Shape (t : List UInt8) (v : VV) : Prop := ∃ k m s a b, t = k :: 58 :: (m ++ 64 :: s) ∧ looseB m = true ∧ kindOf k ≠ 0 ∧ twoV s 45 = some (a, b) ∧ v = ⟨kindOf k, m, a, b⟩
theorem kind_ne {k : UInt8} (h : kindOf k ≠ 0) : k ≠ 58 ∧ k ≠ 64 := by
  constructor <;> (rintro rfl; exact h rfl)
theorem split_two_inv {c : UInt8} {l a b : List UInt8} (h : Lib.split l [c] = [a, b]) : l = a ++ c :: b := by
  rcases cut_split c l with ⟨x, h1, -, -, -⟩ | ⟨x, y, ws, h1, -, -, he, -, -⟩
  · rw [h1] at h; cases h
  · rw [h1] at h
    cases h
    simpa using he
theorem valV_shape {t : List UInt8} {v : VV} : valV t = some v ↔ Shape t v := by
  constructor
  · intro h
    unfold valV at h
    split at h
    · rename_i l0 l1 e
      split at h
      · rename_i k m1 e2
        by_cases hl : looseB m1 = true ∧ kindOf k ≠ 0
        · rw [if_pos hl] at h
          split at h
          · rename_i a b e3
            refine ⟨k, m1, l1, a, b, ?_, hl.1, hl.2, e3, (Option.some.inj h).symm⟩
            rw [split_two_inv e, split_two_inv e2]
            simp
          · cases h
        · rw [if_neg hl] at h; cases h
      · cases h
    · cases h
  · rintro ⟨k, m, s, a, b, rfl, hl, hk, h2, rfl⟩
    have h64 := two_clear (d := 64) rfl (by decide) h2
    obtain ⟨n32, n64, n58⟩ := loose_mem hl
    obtain ⟨k58, k64⟩ := kind_ne hk
    have e1 : k :: 58 :: (m ++ 64 :: s) = (k :: 58 :: m) ++ 64 :: s := by simp
    have e2 : Lib.split (k :: 58 :: (m ++ 64 :: s)) [64] = [k :: 58 :: m, s] := by
      rw [e1]
      exact split_two (by simp [n64, Ne.symm k64]) h64
    have e3 : Lib.split (k :: 58 :: m) [58] = [[k], m] := split_two (a := [k]) (by simp [Ne.symm k58]) n58
    unfold valV
    rw [e2]
    simp only
    rw [e3]
    simp only
    rw [if_pos ⟨hl, hk⟩, h2]
theorem cut_inv {c : UInt8} {l : List UInt8} (h : (Lib.cut l [c]).2.2 = true) : l = (Lib.cut l [c]).1 ++ c :: (Lib.cut l [c]).2.1 := by
  rcases cut_split c l with ⟨x, -, -, -, h2⟩ | ⟨x, y, ws, -, -, -, he, h2, -⟩
  · rw [h2] at h; cases h
  · rw [h2]; exact he
theorem valP_shape {t : List UInt8} {v : VV} : valP t = some v ↔ Shape t v := by
  constructor
  · intro h
    unfold valP at h
    simp only at h
    by_cases hb : (Lib.cut t [58]).2.2 = false ∨ (Lib.cut (Lib.cut t [58]).2.1 [64]).2.2 = false ∨ (twoP (Lib.cut (Lib.cut t [58]).2.1 [64]).2.1 45).2.2 = false ∨ (Lib.cut t [58]).1.length ≠ 1 ∨ looseB (Lib.cut (Lib.cut t [58]).2.1 [64]).1 = false
    · rw [if_pos hb] at h; cases h
    · rw [if_neg hb] at h
      simp only [not_or, Bool.not_eq_false, Decidable.not_not] at hb
      obtain ⟨h1, h2, h3, h4, h5⟩ := hb
      split at h
      · cases h
      · rename_i hk
        have e1 := cut_inv h1
        have e2 := cut_inv h2
        obtain ⟨k, hkk⟩ := List.length_eq_one_iff.1 h4
        rw [hkk] at e1 hk h
        have h6 := two_eq (t := (Lib.cut (Lib.cut t [58]).2.1 [64]).2.1) (c := 45) rfl
        rw [h3] at h6
        obtain ⟨q, hq⟩ := Option.isSome_iff_exists.1 h6.1.symm
        have h7 := h6.2 q hq
        refine ⟨k, _, _, q.1, q.2, ?_, h5, hk, hq, ?_⟩
        · exact e1.trans (congrArg (fun z => k :: 58 :: z) e2)
        · rw [h7]; exact (Option.some.inj h).symm
  · rintro ⟨k, m, s, a, b, rfl, hl, hk, h2, rfl⟩
    obtain ⟨n32, n64, n58⟩ := loose_mem hl
    obtain ⟨k58, k64⟩ := kind_ne hk
    have e1 : Lib.cut (k :: 58 :: (m ++ 64 :: s)) [58] = ([k], m ++ 64 :: s, true) := Lx.cut_byte (a := [k]) _ (by simp [Ne.symm k58])
    have e2 : Lib.cut (m ++ 64 :: s) [64] = (m, s, true) := Lx.cut_byte _ n64
    have h6 := two_eq (t := s) (c := 45) rfl
    rw [h2] at h6
    have h7 := h6.2 _ rfl
    unfold valP
    simp only [e1, e2]
    rw [if_neg (by rw [h6.1, hl]; simp), if_neg (by simpa using hk)]
    injection h7 with h8 h9
    rw [← h8, ← h9]
    rfl
theorem val_eq (t : List UInt8) : valP t = valV t := by
  refine Option.ext fun v => ?_
  rw [valP_shape, valV_shape]
end Sg
namespace Sg
open Go
def bs (l : List UInt8) : ByteArray := ⟨l.toArray⟩
theorem bs_list (l : List UInt8) : (bs l).data.toList = l := rfl
def VV.value (v : VV) : Value := ⟨v.kind, bs v.text, v.lo, v.hi⟩
def valsOf (ws : List (List UInt8)) : List Value := ws.filterMap fun w => (valV w).map VV.value
def valsB (ws : List (List UInt8)) : Bool := ws.all fun w => (valV w).isSome
theorem valsOf_next {ws : List (List UInt8)} {k : Nat} {w : List UInt8} {v : VV} (h : ws[k]? = some w) (hv : valV w = some v) : valsOf (ws.take (k + 1)) = valsOf (ws.take k) ++ [v.value] := by
  unfold valsOf
  rw [List.take_add_one, h, List.filterMap_append]
  simp [hv]
theorem valsOf_len (ws : List (List UInt8)) (k : Nat) : (valsOf (ws.take k)).length ≤ k := by
  unfold valsOf
  exact Nat.le_trans (List.length_filterMap_le _ _) (List.length_take_le _ _)
theorem valsB_to {ws : List (List UInt8)} (h : ∀ j w, j < ws.length → ws[j]? = some w → (valV w).isSome = true) : valsB ws = true := by
  unfold valsB
  rw [List.all_eq_true]
  intro w hw
  obtain ⟨j, hj, e⟩ := List.getElem_of_mem hw
  exact h j w hj (by rw [List.getElem?_eq_getElem hj, e])
theorem valsB_not {ws : List (List UInt8)} {k : Nat} {w : List UInt8} (h : ws[k]? = some w) (hv : valV w = none) : valsB ws = false := by
  unfold valsB
  rw [List.all_eq_false]
  exact ⟨w, List.mem_of_getElem? h, by simp [hv]⟩
/-- the words behind the sizes: is there a mark -/
def marked (r : List (List UInt8)) : Bool := decide (r.head? = some [61])
def unmarked (r : List (List UInt8)) : List (List UInt8) := if marked r = true then r.tail else r
def signL (ws : List (List UInt8)) : Option Sign := match ws with
  | c :: z :: r => match twoV z 120 with
    | some (a, b) => if looseB c = true ∧ valsB (unmarked r) = true then some ⟨bs c, a, b, marked r, valsOf (unmarked r)⟩ else none
    | none => none
  | _ => none
theorem signL_two {c z : List UInt8} {r : List (List UInt8)} (h : twoV z 120 = none) : signL (c :: z :: r) = none := by simp [signL, h]
theorem signL_loose {c z : List UInt8} {r : List (List UInt8)} (h : looseB c = false) : signL (c :: z :: r) = none := by
  cases hz : twoV z 120 with
  | none => simp [signL, hz]
  | some q => obtain ⟨a, b⟩ := q; simp [signL, hz, h]
theorem signL_vals {c z : List UInt8} {r : List (List UInt8)} (h : valsB (unmarked r) = false) : signL (c :: z :: r) = none := by
  cases hz : twoV z 120 with
  | none => simp [signL, hz]
  | some q => obtain ⟨a, b⟩ := q; simp [signL, hz, h]
theorem signL_some {c z : List UInt8} {r : List (List UInt8)} {a b : Int} (h1 : looseB c = true) (h2 : twoV z 120 = some (a, b)) (h3 : valsB (unmarked r) = true) : signL (c :: z :: r) = some ⟨bs c, a, b, marked r, valsOf (unmarked r)⟩ := by
  simp only [signL, h2]
  rw [if_pos ⟨h1, h3⟩]
theorem signL_short {ws : List (List UInt8)} (h : ws.length < 2) : signL ws = none := by
  match ws, h with
  | [], _ => rfl
  | [_], _ => rfl
  | _ :: _ :: _, h => simp at h; omega

/-- the first line -/
def perB : List UInt8 := [112, 101, 114, 105, 111, 100, 115]
def headV (t : List UInt8) : Option Int := match Lib.split t [32] with
  | [a, b] => if a = perB ∧ Lx.numB b 3 = true then some (Lx.numV b 3) else none
  | _ => none
theorem head_eq (t : List UInt8) : headV t = if Lib.hasPrefix t (perB ++ [32]) = true ∧ Lx.numB (Lib.trimPrefix t (perB ++ [32])) 3 = true then some (Lx.numV (Lib.trimPrefix t (perB ++ [32])) 3) else none := by
  cases hp : Lib.hasPrefix t (perB ++ [32])
  · rw [if_neg (by simp)]
    unfold headV
    split
    · rename_i a b e
      rw [if_neg]
      rintro ⟨rfl, -⟩
      have := split_two_inv e
      rw [this] at hp
      have : Lib.hasPrefix (perB ++ 32 :: b) (perB ++ [32]) = true := by
        unfold Lib.hasPrefix
        rw [List.isPrefixOf_iff_prefix]
        exact ⟨b, by simp⟩
      rw [this] at hp
      cases hp
    · rfl
  · have hp' := hp
    unfold Lib.hasPrefix at hp'
    rw [List.isPrefixOf_iff_prefix] at hp'
    obtain ⟨d, rfl⟩ := hp'
    have ht : Lib.trimPrefix (perB ++ [32] ++ d) (perB ++ [32]) = d := by
      unfold Lib.trimPrefix
      rw [if_pos hp, List.drop_left]
    rw [ht]
    obtain ⟨a, ws, -, e2, h3, h4⟩ := Lx.pst_join 32 d
    have hs : Lib.split (perB ++ [32] ++ d) [32] = perB :: a :: ws := by
      have := Lx.split_byte (c := 32) (a :: ws) perB (by decide) (by
        intro w hw
        rcases List.mem_cons.1 hw with rfl | hw
        · exact h3
        · exact h4 w hw)
      rw [← this, e2]
      simp
    unfold headV
    rw [hs]
    cases ws with
    | nil =>
      have : d = a := by simpa using e2
      subst this
      simp
    | cons b ws =>
      have hm : (32 : UInt8) ∈ d := by rw [e2]; simp
      have := num_clear (l := d) (c := 32) rfl hm
      simp [this]

def okLine (l : List (List UInt8)) (i : Nat) : Bool := match l[i]? with
  | some x => if i = 0 then (headV x).isSome else (signL (Lib.split x [32])).isSome
  | none => true
def badLine (l : List (List UInt8)) : Option Nat := (List.range l.length).find? fun i => !okLine l i
def periodsL (l : List (List UInt8)) : Int := match l[0]? with
  | some x => (headV x).getD 0
  | none => 0
def signsL (l : List (List UInt8)) : List Sign := l.tail.filterMap fun x => signL (Lib.split x [32])
def listL (l : List (List UInt8)) : SList := ⟨periodsL l, signsL l⟩
/-- what Parse makes of lines that have ended, and of what is left -/
def parseL (l : List (List UInt8)) (r : List UInt8) : SList × Int × Int :=
  match badLine l with
  | some i => (⟨0, []⟩, (i : Int) + 1, 4)
  | none => if r = [] ∧ l ≠ [] then (if checkV (listL l) = 0 then (listL l, 0, 0) else (⟨0, []⟩, 0, checkV (listL l))) else (⟨0, []⟩, (l.length : Int) + 1, 4)
def parseV (t : List UInt8) : SList × Int × Int := if 65536 < t.length then (⟨0, []⟩, 0, 2) else parseL (Lx.pst 10 t).1 (Lx.pst 10 t).2
theorem parse_bad {l : List (List UInt8)} {r : List UInt8} {k : Nat} (hk : k < l.length) (h : ∀ j, j < k → okLine l j = true) (h0 : okLine l k = false) : parseL l r = (⟨0, []⟩, (k : Int) + 1, 4) := by
  have : badLine l = some k := by
    unfold badLine
    obtain ⟨m, hm⟩ : ∃ m, l.length = k + (m + 1) := ⟨l.length - k - 1, by omega⟩
    rw [hm, List.range_add, List.find?_append]
    have e1 : (List.range k).find? (fun i => !okLine l i) = none := by
      rw [List.find?_eq_none]
      intro j hj
      rw [List.mem_range] at hj
      simp [h j hj]
    rw [e1, List.range_succ_eq_map]
    simp [h0]
  unfold parseL
  rw [this]
theorem bad_none {l : List (List UInt8)} (h : ∀ j, j < l.length → okLine l j = true) : badLine l = none := by
  unfold badLine
  rw [List.find?_eq_none]
  intro j hj
  rw [List.mem_range] at hj
  simp [h j hj]
theorem parse_open {l : List (List UInt8)} {r : List UInt8} (h : ∀ j, j < l.length → okLine l j = true) (h0 : r ≠ [] ∨ l = []) : parseL l r = (⟨0, []⟩, (l.length : Int) + 1, 4) := by
  unfold parseL
  rw [bad_none h]
  simp only
  rw [if_neg]
  rintro ⟨h1, h2⟩
  rcases h0 with h0 | h0
  · exact h0 h1
  · exact h2 h0
theorem parse_done {l : List (List UInt8)} {r : List UInt8} (h : ∀ j, j < l.length → okLine l j = true) (h0 : r = []) (h1 : l ≠ []) : parseL l r = if checkV (listL l) = 0 then (listL l, 0, 0) else (⟨0, []⟩, 0, checkV (listL l)) := by
  unfold parseL
  rw [bad_none h]
  simp only
  rw [if_pos ⟨h0, h1⟩]
theorem signsL_next {l : List (List UInt8)} {k : Nat} {x : List UInt8} {s : Sign} (hk : 0 < k) (h : l[k]? = some x) (hs : signL (Lib.split x [32]) = some s) : signsL (l.take (k + 1)) = signsL (l.take k) ++ [s] := by
  cases l with
  | nil => simp at h
  | cons a l =>
    obtain ⟨m, rfl⟩ : ∃ m, k = m + 1 := ⟨k - 1, by omega⟩
    unfold signsL
    rw [List.take_succ_cons, List.take_succ_cons, List.tail_cons, List.tail_cons, List.take_add_one]
    rw [List.getElem?_cons_succ] at h
    rw [h, List.filterMap_append]
    simp [hs]
theorem signsL_one (l : List (List UInt8)) : signsL (l.take 1) = [] := by
  cases l with
  | nil => rfl
  | cons a l => simp [signsL]
theorem signsL_len (l : List (List UInt8)) (k : Nat) : (signsL (l.take k)).length ≤ k := by
  unfold signsL
  refine Nat.le_trans (List.length_filterMap_le _ _) ?_
  rw [List.length_tail, List.length_take]
  omega
theorem okLine_head {l : List (List UInt8)} {x : List UInt8} (h : l[0]? = some x) : okLine l 0 = (headV x).isSome := by simp [okLine, h]
theorem okLine_sign {l : List (List UInt8)} {k : Nat} {x : List UInt8} (hk : 0 < k) (h : l[k]? = some x) : okLine l k = (signL (Lib.split x [32])).isSome := by
  have : ¬ k = 0 := by omega
  simp [okLine, h, this]
/-- SplitAfter -/
def addSep (c : UInt8) : List (List UInt8) → List (List UInt8)
  | [] => []
  | [a] => [a]
  | a :: b :: r => (a ++ [c]) :: addSep c (b :: r)
theorem addSep_cons (c : UInt8) (a : List UInt8) {l : List (List UInt8)} (h : l ≠ []) : addSep c (a :: l) = (a ++ [c]) :: addSep c l := by
  cases l with
  | nil => exact absurd rfl h
  | cons b r => rfl
theorem addSep_snoc (c : UInt8) (l : List (List UInt8)) (x : List UInt8) : addSep c (l ++ [x]) = l.map (· ++ [c]) ++ [x] := by
  induction l with
  | nil => rfl
  | cons a l ih => rw [List.cons_append, addSep_cons c a (by simp), ih]; rfl
theorem splitK_ne (sep : List UInt8) (save k : Nat) (s : List UInt8) : Lib.splitK sep save k s ≠ [] := by
  cases k with
  | zero => simp [Lib.splitK]
  | succ k =>
    unfold Lib.splitK
    split <;> simp
theorem take_index (c : UInt8) : ∀ (s : List UInt8) (i : Nat), Lib.index s [c] = (i : Int) → s.take (i + 1) = s.take i ++ [c]
  | [], i, h => by simp [Lib.index] at h
  | b :: r, i, h => by
    by_cases e : c = b
    · subst e
      have h0 : Lib.index (c :: r) [c] = 0 := by simpa using Lx.index_byte (c := c) r (a := []) (by simp)
      obtain rfl : i = 0 := by omega
      rfl
    · by_cases hm : c ∈ r
      · obtain ⟨p, q, rfl, hp⟩ : ∃ p q, r = p ++ c :: q ∧ c ∉ p := List.append_of_mem hm |>.elim fun _ _ => by
          obtain ⟨p, q, e, hp⟩ := List.eq_append_cons_of_mem hm
          exact ⟨p, q, e, hp⟩
        have h0 := Lx.index_byte (c := c) q (a := b :: p) (by simp [e, hp])
        rw [List.cons_append] at h0
        obtain rfl : i = p.length + 1 := by rw [h0] at h; simp at h; omega
        simp [List.take_append, List.take_of_length_le]
      · have h0 := Lx.index_byte_none (c := c) (a := b :: r) (by simp [e, hm])
        omega
theorem splitK_after (c : UInt8) : ∀ (k : Nat) (s : List UInt8), Lib.splitK [c] 1 k s = addSep c (Lib.splitK [c] 0 k s)
  | 0, s => rfl
  | k + 1, s => by
    unfold Lib.splitK
    by_cases h : (Lib.index s [c] == -1) = true
    · rw [if_pos h, if_pos h]; rfl
    · rw [if_neg h, if_neg h, addSep_cons c _ (splitK_ne _ _ _ _), splitK_after c k]
      congr 1
      have h1 := Lib.index_ge s [c]
      rw [beq_iff_eq] at h
      exact take_index c s _ (by omega)
theorem split_after (c : UInt8) (s : List UInt8) : Lib.splitK [c] 1 (Lib.count s [c]) s = (Lx.pst c s).1.map (· ++ [c]) ++ [(Lx.pst c s).2] := by
  rw [splitK_after]
  have : Lib.splitK [c] 0 (Lib.count s [c]) s = Lib.split s [c] := rfl
  rw [this, Lx.pst_split, addSep_snoc]
/-- no line holds what parts lines -/
theorem lines_clear (c : UInt8) (t : List UInt8) : (∀ x ∈ (Lx.pst c t).1, c ∉ x) ∧ c ∉ (Lx.pst c t).2 := by
  obtain ⟨a, ws, h1, -, h3, h4⟩ := Lx.pst_join c t
  have h : ∀ x ∈ (Lx.pst c t).1 ++ [(Lx.pst c t).2], c ∉ x := by
    rw [h1]
    intro x hx
    rcases List.mem_cons.1 hx with rfl | hx
    · exact h3
    · exact h4 x hx
  exact ⟨fun x hx => h x (by simp [hx]), h _ (by simp)⟩
end Sg
