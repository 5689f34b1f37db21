/- Sign lists as text: plain notions, and that cutting and splitting say the same. -/
import Derived.Test.YtkmimjngmfdpmaaGreatDoorMgRegion
import Derived.Test.YtkmimjngmfdpmaaGreatDoorMgTextPlain
import Derived.Test.YtkmimjngmfdpmaaGreatDoorMgGlossLaw
namespace Sg
open Go
theorem join_sp (c : UInt8) (ws : List (List UInt8)) (b : List UInt8) : (c :: b) ++ ws.flatMap (c :: ·) = c :: (b ++ ws.flatMap (c :: ·)) := rfl
/-- a text at its first c: the pieces before and behind -/
theorem cut_split (c : UInt8) (l : List UInt8) : (∃ a, Lib.split l [c] = [a] ∧ a = l ∧ c ∉ l ∧ Lib.cut l [c] = (l, [], false)) ∨
    ∃ a b ws, Lib.split l [c] = a :: b :: ws ∧ c ∉ a ∧ c ∉ b ∧ l = a ++ c :: (b ++ ws.flatMap (c :: ·)) ∧ Lib.cut l [c] = (a, b ++ ws.flatMap (c :: ·), true) ∧ (ws = [] → Lib.split (b ++ ws.flatMap (c :: ·)) [c] = [b]) := by
  obtain ⟨a, ws, e1, e2, h3, h4⟩ := Lx.pst_join c l
  cases ws with
  | nil =>
    rw [List.flatMap_nil, List.append_nil] at e2
    subst e2
    exact .inl ⟨l, by rw [Lx.pst_split, e1], rfl, h3, Lx.cut_byte_none h3⟩
  | cons b ws =>
    rw [List.flatMap_cons, List.cons_append] at e2
    refine .inr ⟨a, b, ws, by rw [Lx.pst_split, e1], h3, h4 b (by simp), e2, ?_, fun h => ?_⟩
    · conv => lhs; rw [e2]
      exact Lx.cut_byte _ h3
    · subst h
      simpa using Lx.split_byte [] b (h4 b (by simp)) (by simp)
theorem split_one {c : UInt8} {l : List UInt8} (h : c ∉ l) : Lib.split l [c] = [l] := by simpa using Lx.split_byte [] l h (by simp)
theorem split_two {c : UInt8} {a b : List UInt8} (h : c ∉ a) (h' : c ∉ b) : Lib.split (a ++ c :: b) [c] = [a, b] := by simpa using Lx.split_byte [b] a h (by simpa using h')

/-- two numbers with a byte between them -/
def twoV (t : List UInt8) (c : UInt8) : Option (Int × Int) := match Lib.split t [c] with
  | [a, b] => if Lx.numB a 3 = true ∧ Lx.numB b 3 = true then some (Lx.numV a 3, Lx.numV b 3) else none
  | _ => none
theorem num_clear {l : List UInt8} {c : UInt8} (hc : Lx.digB c = false) (h : c ∈ l) : Lx.numB l 3 = false := by
  unfold Lx.numB
  have : l.all Lx.digB = false := by
    rw [List.all_eq_false]
    exact ⟨c, h, by simp [hc]⟩
  rw [this]
  simp
/-- what the program makes of two numbers -/
def twoP (t : List UInt8) (c : UInt8) : Int × Int × Bool := (Lx.numV (Lib.cut t [c]).1 3, Lx.numV (Lib.cut t [c]).2.1 3, (Lib.cut t [c]).2.2 && Lx.numB (Lib.cut t [c]).1 3 && Lx.numB (Lib.cut t [c]).2.1 3)
theorem two_eq {t : List UInt8} {c : UInt8} (hc : Lx.digB c = false) : (twoP t c).2.2 = (twoV t c).isSome ∧ ∀ q, twoV t c = some q → q = ((twoP t c).1, (twoP t c).2.1) := by
  unfold twoP twoV
  rcases cut_split c t with ⟨a, h1, -, -, h2⟩ | ⟨a, b, ws, h1, -, -, -, h2, -⟩
  · rw [h1, h2]
    exact ⟨rfl, fun q h => by cases h⟩
  · rw [h1, h2]
    cases ws with
    | nil =>
      simp only [List.flatMap_nil, List.append_nil, Bool.true_and]
      by_cases h : Lx.numB a 3 = true ∧ Lx.numB b 3 = true
      · rw [if_pos h, h.1, h.2]
        exact ⟨rfl, fun q hq => by cases hq; rfl⟩
      · rw [if_neg h]
        refine ⟨?_, fun q hq => by cases hq⟩
        cases ha : Lx.numB a 3 <;> cases hb : Lx.numB b 3 <;> simp_all
    | cons d ws =>
      have hm : c ∈ b ++ (d :: ws).flatMap (c :: ·) := by simp
      simp only [num_clear hc hm, Bool.and_false]
      exact ⟨rfl, fun q hq => by cases hq⟩
/-- no blank, no at, no colon, and something -/
def looseB (t : List UInt8) : Bool := !decide (t = []) && t.all fun b => !decide (b = 32) && !decide (b = 64) && !decide (b = 58)
def kindOf (b : UInt8) : Int := if b = 115 then 1 else if b = 119 then 2 else if b = 99 then 3 else 0
structure VV where
  kind : Int
  text : List UInt8
  lo : Int
  hi : Int
def valV (t : List UInt8) : Option VV := match Lib.split t [64] with
  | [l0, l1] => match Lib.split l0 [58] with
    | [[k], m1] => if looseB m1 = true ∧ kindOf k ≠ 0 then (match twoV l1 45 with
      | some (a, b) => some ⟨kindOf k, m1, a, b⟩
      | none => none) else none
    | _ => none
  | _ => none
/-- what the program makes of a value -/
def valP (t : List UInt8) : Option VV :=
  let (kind, rest, found) := Lib.cut t [58]
  let (text, span, also) := Lib.cut rest [64]
  let (a, b, is) := twoP span 45
  if found = false ∨ also = false ∨ is = false ∨ kind.length ≠ 1 ∨ looseB text = false then none
  else if kindOf (kind[0]?.getD 0) = 0 then none else some ⟨kindOf (kind[0]?.getD 0), text, a, b⟩
theorem loose_mem {t : List UInt8} (h : looseB t = true) : (32 : UInt8) ∉ t ∧ (64 : UInt8) ∉ t ∧ (58 : UInt8) ∉ t := by
  unfold looseB at h
  rw [Bool.and_eq_true, List.all_eq_true] at h
  refine ⟨fun q => ?_, fun q => ?_, fun q => ?_⟩ <;> (have := h.2 _ q; simp at this)
theorem two_clear {t : List UInt8} {c d : UInt8} (hd : Lx.digB d = false) (hcd : d ≠ c) {q : Int × Int} (h : twoV t c = some q) : d ∉ t := by
  unfold twoV at h
  rcases cut_split c t with ⟨a, h1, -, -, h2⟩ | ⟨a, b, ws, h1, -, -, he, h2, -⟩
  · rw [h1] at h; cases h
  · rw [h1] at h
    cases ws with
    | cons d ws => cases h
    | nil =>
      simp only [List.flatMap_nil, List.append_nil] at h he
      by_cases hn : Lx.numB a 3 = true ∧ Lx.numB b 3 = true
      · intro hm
        rw [he] at hm
        rw [List.mem_append, List.mem_cons] at hm
        rcases hm with hm | hm | hm
        · rw [num_clear hd hm] at hn; cases hn.1
        · exact hcd hm
        · rw [num_clear hd hm] at hn; cases hn.2
      · rw [if_neg hn] at h; cases h
def Shape (t : List UInt8) (v : VV) : Prop := ∃ k m s a b, t = k :: 58 :: (m ++ 64 :: s) ∧ looseB m = true ∧ kindOf k ≠ 0 ∧ twoV s 45 = some (a, b) ∧ v = ⟨kindOf k, m, a, b⟩
theorem kind_ne {k : UInt8} (h : kindOf k ≠ 0) : k ≠ 58 ∧ k ≠ 64 := by
  constructor <;> (rintro rfl; exact h rfl)
theorem split_two_inv {c : UInt8} {l a b : List UInt8} (h : Lib.split l [c] = [a, b]) : l = a ++ c :: b := by
  rcases cut_split c l with ⟨x, h1, -, -, -⟩ | ⟨x, y, ws, h1, -, -, he, -, -⟩
  · rw [h1] at h; cases h
  · rw [h1] at h
    cases h
    simpa using he
theorem valV_shape {t : List UInt8} {v : VV} : valV t = some v ↔ Shape t v := by
  constructor
  · intro h
    unfold valV at h
    split at h
    · rename_i l0 l1 e
      split at h
      · rename_i k m1 e2
        by_cases hl : looseB m1 = true ∧ kindOf k ≠ 0
        · rw [if_pos hl] at h
          split at h
          · rename_i a b e3
            refine ⟨k, m1, l1, a, b, ?_, hl.1, hl.2, e3, (Option.some.inj h).symm⟩
            rw [split_two_inv e, split_two_inv e2]
            simp
          · cases h
        · rw [if_neg hl] at h; cases h
      · cases h
    · cases h
  · rintro ⟨k, m, s, a, b, rfl, hl, hk, h2, rfl⟩
    have h64 := two_clear (d := 64) rfl (by decide) h2
    obtain ⟨n32, n64, n58⟩ := loose_mem hl
    obtain ⟨k58, k64⟩ := kind_ne hk
    have e1 : k :: 58 :: (m ++ 64 :: s) = (k :: 58 :: m) ++ 64 :: s := by simp
    have e2 : Lib.split (k :: 58 :: (m ++ 64 :: s)) [64] = [k :: 58 :: m, s] := by
      rw [e1]
      exact split_two (by simp [n64, Ne.symm k64]) h64
    have e3 : Lib.split (k :: 58 :: m) [58] = [[k], m] := split_two (a := [k]) (by simp [Ne.symm k58]) n58
    unfold valV
    rw [e2]
    simp only
    rw [e3]
    simp only
    rw [if_pos ⟨hl, hk⟩, h2]
theorem cut_inv {c : UInt8} {l : List UInt8} (h : (Lib.cut l [c]).2.2 = true) : l = (Lib.cut l [c]).1 ++ c :: (Lib.cut l [c]).2.1 := by
  rcases cut_split c l with ⟨x, -, -, -, h2⟩ | ⟨x, y, ws, -, -, -, he, h2, -⟩
  · rw [h2] at h; cases h
  · rw [h2]; exact he
theorem valP_shape {t : List UInt8} {v : VV} : valP t = some v ↔ Shape t v := by
  constructor
  · intro h
    unfold valP at h
    simp only at h
    by_cases hb : (Lib.cut t [58]).2.2 = false ∨ (Lib.cut (Lib.cut t [58]).2.1 [64]).2.2 = false ∨ (twoP (Lib.cut (Lib.cut t [58]).2.1 [64]).2.1 45).2.2 = false ∨ (Lib.cut t [58]).1.length ≠ 1 ∨ looseB (Lib.cut (Lib.cut t [58]).2.1 [64]).1 = false
    · rw [if_pos hb] at h; cases h
    · rw [if_neg hb] at h
      simp only [not_or, Bool.not_eq_false, Decidable.not_not] at hb
      obtain ⟨h1, h2, h3, h4, h5⟩ := hb
      split at h
      · cases h
      · rename_i hk
        have e1 := cut_inv h1
        have e2 := cut_inv h2
        obtain ⟨k, hkk⟩ := List.length_eq_one_iff.1 h4
        rw [hkk] at e1 hk h
        have h6 := two_eq (t := (Lib.cut (Lib.cut t [58]).2.1 [64]).2.1) (c := 45) rfl
        rw [h3] at h6
        obtain ⟨q, hq⟩ := Option.isSome_iff_exists.1 h6.1.symm
        have h7 := h6.2 q hq
        refine ⟨k, _, _, q.1, q.2, ?_, h5, hk, hq, ?_⟩
        · exact e1.trans (congrArg (fun z => k :: 58 :: z) e2)
        · rw [h7]; exact (Option.some.inj h).symm
  · rintro ⟨k, m, s, a, b, rfl, hl, hk, h2, rfl⟩
    obtain ⟨n32, n64, n58⟩ := loose_mem hl
    obtain ⟨k58, k64⟩ := kind_ne hk
    have e1 : Lib.cut (k :: 58 :: (m ++ 64 :: s)) [58] = ([k], m ++ 64 :: s, true) := Lx.cut_byte (a := [k]) _ (by simp [Ne.symm k58])
    have e2 : Lib.cut (m ++ 64 :: s) [64] = (m, s, true) := Lx.cut_byte _ n64
    have h6 := two_eq (t := s) (c := 45) rfl
    rw [h2] at h6
    have h7 := h6.2 _ rfl
    unfold valP
    simp only [e1, e2]
    rw [if_neg (by rw [h6.1, hl]; simp), if_neg (by simpa using hk)]
    injection h7 with h8 h9
    rw [← h8, ← h9]
    rfl
theorem val_eq (t : List UInt8) : valP t = valV t := by
  refine Option.ext fun v => ?_
  rw [valP_shape, valV_shape]
end Sg
