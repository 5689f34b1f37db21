/- Sign lists as text: plain notions, and that cutting and splitting say the same.; A sign list's text: what both sides make of it: plain law.; Names of signs: plain notions, and that a number is its digits.; Names of the signs of a valid list: plain law.; What a sign list is as text, and that it is read as this list: plain law. -/
import Derived.Test.YtenmkbpdkfhbjaaGreatRaRegion
import Derived.Test.YtenmkbpdkfhbjaaGreatRaTextPlain
import Derived.Lib.ItoaNum
import Derived.Lib.Small
import Derived.Lib.ItoaLen
namespace Sg
open Go
/-- a text at its first c: the pieces before and behind -/
theorem cut_split (c : UInt8) (l : List UInt8) : (∃ a, Lib.split l [c] = [a] ∧ a = l ∧ c ∉ l ∧ Lib.cut l [c] = (l, [], false)) ∨
    ∃ a b ws, Lib.split l [c] = a :: b :: ws ∧ c ∉ a ∧ c ∉ b ∧ l = a ++ c :: (b ++ ws.flatMap (c :: ·)) ∧ Lib.cut l [c] = (a, b ++ ws.flatMap (c :: ·), true) ∧ (ws = [] → Lib.split (b ++ ws.flatMap (c :: ·)) [c] = [b]) := by
  obtain ⟨a, ws, e1, e2, h3, h4⟩ := Lx.pst_join c l
  cases ws with
  | nil =>
    rw [List.flatMap_nil, List.append_nil] at e2
    subst e2
    exact .inl ⟨l, by rw [Lx.pst_split, e1], rfl, h3, Lx.cut_byte_none h3⟩
  | cons b ws =>
    rw [List.flatMap_cons, List.cons_append] at e2
    refine .inr ⟨a, b, ws, by rw [Lx.pst_split, e1], h3, h4 b (by simp), e2, ?_, fun h => ?_⟩
    · conv => lhs; rw [e2]
      exact Lx.cut_byte _ h3
    · subst h
      simpa using Lx.split_byte [] b (h4 b (by simp)) (by simp)
theorem split_two {c : UInt8} {a b : List UInt8} (h : c ∉ a) (h' : c ∉ b) : Lib.split (a ++ c :: b) [c] = [a, b] := by simpa using Lx.split_byte [b] a h (by simpa using h')

/-- two numbers with a byte between them -/
def twoV (t : List UInt8) (c : UInt8) : Option (Int × Int) := match Lib.split t [c] with
  | [a, b] => if Lx.numB a 3 = true ∧ Lx.numB b 3 = true then some (Lx.numV a 3, Lx.numV b 3) else none
  | _ => none
theorem num_clear {l : List UInt8} {c : UInt8} (hc : Lx.digB c = false) (h : c ∈ l) : Lx.numB l 3 = false := by
  unfold Lx.numB
  have : l.all Lx.digB = false := by
    rw [List.all_eq_false]
    exact ⟨c, h, by simp [hc]⟩
  rw [this]
  simp
/-- no blank, no at, no colon, and something -/
def looseB (t : List UInt8) : Bool := !decide (t = []) && t.all fun b => !decide (b = 32) && !decide (b = 64) && !decide (b = 58)
def kindOf (b : UInt8) : Int := if b = 115 then 1 else if b = 119 then 2 else if b = 99 then 3 else 0
structure VV where
  kind : Int
  text : List UInt8
  lo : Int
  hi : Int
def valV (t : List UInt8) : Option VV := match Lib.split t [64] with
  | [l0, l1] => match Lib.split l0 [58] with
    | [[k], m1] => if looseB m1 = true ∧ kindOf k ≠ 0 then (match twoV l1 45 with
      | some (a, b) => some ⟨kindOf k, m1, a, b⟩
      | none => none) else none
    | _ => none
  | _ => none
theorem loose_mem {t : List UInt8} (h : looseB t = true) : (32 : UInt8) ∉ t ∧ (64 : UInt8) ∉ t ∧ (58 : UInt8) ∉ t := by
  unfold looseB at h
  rw [Bool.and_eq_true, List.all_eq_true] at h
  refine ⟨fun q => ?_, fun q => ?_, fun q => ?_⟩ <;> (have := h.2 _ q; simp at this)
theorem two_clear {t : List UInt8} {c d : UInt8} (hd : Lx.digB d = false) (hcd : d ≠ c) {q : Int × Int} (h : twoV t c = some q) : d ∉ t := by
  unfold twoV at h
  rcases cut_split c t with ⟨a, h1, -, -, h2⟩ | ⟨a, b, ws, h1, -, -, he, h2, -⟩
  · rw [h1] at h; cases h
  · rw [h1] at h
    cases ws with
    | cons d ws => cases h
    | nil =>
      simp only [List.flatMap_nil, List.append_nil] at h he
      by_cases hn : Lx.numB a 3 = true ∧ Lx.numB b 3 = true
      · intro hm
        rw [he] at hm
        rw [List.mem_append, List.mem_cons] at hm
        rcases hm with hm | hm | hm
        · rw [num_clear hd hm] at hn; cases hn.1
        · exact hcd hm
        · rw [num_clear hd hm] at hn; cases hn.2
      · rw [if_neg hn] at h; cases h
def Shape (t : List UInt8) (v : VV) : Prop := ∃ k m s a b, t = k :: 58 :: (m ++ 64 :: s) ∧ looseB m = true ∧ kindOf k ≠ 0 ∧ twoV s 45 = some (a, b) ∧ v = ⟨kindOf k, m, a, b⟩
theorem kind_ne {k : UInt8} (h : kindOf k ≠ 0) : k ≠ 58 ∧ k ≠ 64 := by
  constructor <;> (rintro rfl; exact h rfl)
theorem split_two_inv {c : UInt8} {l a b : List UInt8} (h : Lib.split l [c] = [a, b]) : l = a ++ c :: b := by
  rcases cut_split c l with ⟨x, h1, -, -, -⟩ | ⟨x, y, ws, h1, -, -, he, -, -⟩
  · rw [h1] at h; cases h
  · rw [h1] at h
    cases h
    simpa using he
theorem valV_shape {t : List UInt8} {v : VV} : valV t = some v ↔ Shape t v := by
  constructor
  · intro h
    unfold valV at h
    split at h
    · rename_i l0 l1 e
      split at h
      · rename_i k m1 e2
        by_cases hl : looseB m1 = true ∧ kindOf k ≠ 0
        · rw [if_pos hl] at h
          split at h
          · rename_i a b e3
            refine ⟨k, m1, l1, a, b, ?_, hl.1, hl.2, e3, (Option.some.inj h).symm⟩
            rw [split_two_inv e, split_two_inv e2]
            simp
          · cases h
        · rw [if_neg hl] at h; cases h
      · cases h
    · cases h
  · rintro ⟨k, m, s, a, b, rfl, hl, hk, h2, rfl⟩
    have h64 := two_clear (d := 64) rfl (by decide) h2
    obtain ⟨n32, n64, n58⟩ := loose_mem hl
    obtain ⟨k58, k64⟩ := kind_ne hk
    have e1 : k :: 58 :: (m ++ 64 :: s) = (k :: 58 :: m) ++ 64 :: s := by simp
    have e2 : Lib.split (k :: 58 :: (m ++ 64 :: s)) [64] = [k :: 58 :: m, s] := by
      rw [e1]
      exact split_two (by simp [n64, Ne.symm k64]) h64
    have e3 : Lib.split (k :: 58 :: m) [58] = [[k], m] := split_two (a := [k]) (by simp [Ne.symm k58]) n58
    unfold valV
    rw [e2]
    simp only
    rw [e3]
    simp only
    rw [if_pos ⟨hl, hk⟩, h2]
end Sg
namespace Sg
open Go
def bs (l : List UInt8) : ByteArray := ⟨l.toArray⟩
theorem bs_list (l : List UInt8) : (bs l).data.toList = l := rfl
def VV.value (v : VV) : Value := ⟨v.kind, bs v.text, v.lo, v.hi⟩
def valsOf (ws : List (List UInt8)) : List Value := ws.filterMap fun w => (valV w).map VV.value
def valsB (ws : List (List UInt8)) : Bool := ws.all fun w => (valV w).isSome
/-- the words behind the sizes: is there a mark -/
def marked (r : List (List UInt8)) : Bool := decide (r.head? = some [61])
def unmarked (r : List (List UInt8)) : List (List UInt8) := if marked r = true then r.tail else r
def signL (ws : List (List UInt8)) : Option Sign := match ws with
  | c :: z :: r => match twoV z 120 with
    | some (a, b) => if looseB c = true ∧ valsB (unmarked r) = true then some ⟨bs c, a, b, marked r, valsOf (unmarked r)⟩ else none
    | none => none
  | _ => none
theorem signL_some {c z : List UInt8} {r : List (List UInt8)} {a b : Int} (h1 : looseB c = true) (h2 : twoV z 120 = some (a, b)) (h3 : valsB (unmarked r) = true) : signL (c :: z :: r) = some ⟨bs c, a, b, marked r, valsOf (unmarked r)⟩ := by
  simp only [signL, h2]
  rw [if_pos ⟨h1, h3⟩]


end Sg
namespace Sg
open Go
theorem digV_snoc (l : List UInt8) (b : UInt8) : Lx.digV (l ++ [b]) = 10 * Lx.digV l + ((b.toNat : Int) - 48) := by
  unfold Lx.digV
  rw [List.foldl_append]
  rfl
theorem dig_of_dec : ∀ n : Nat, (Lib.decDigits n).all Lx.digB = true ∧ Lx.digV (Lib.decDigits n) = (n : Int) := by
  intro n
  induction n using Nat.strongRecOn with
  | ind n ih =>
    rw [Lib.decDigits]
    split
    · rename_i h
      have e : (UInt8.ofNat (48 + n)).toNat = 48 + n := by rw [UInt8.toNat_ofNat']; omega
      constructor
      · simp only [List.all_cons, List.all_nil, Bool.and_true, Lx.digB, e]
        simp; omega
      · show 10 * (0 : Int) + (((UInt8.ofNat (48 + n)).toNat : Int) - 48) = n
        rw [e]; omega
    · rename_i h
      obtain ⟨h1, h2⟩ := ih (n / 10) (by omega)
      have e : (UInt8.ofNat (48 + n % 10)).toNat = 48 + n % 10 := by rw [UInt8.toNat_ofNat']; omega
      constructor
      · rw [List.all_append, h1]
        simp only [List.all_cons, List.all_nil, Bool.and_true, Lx.digB, e]
        simp; omega
      · rw [digV_snoc, h2, e]; omega
end Sg
namespace Sg
open Go
theorem check_sign {l : SList} (h : checkV l = 0) : (1 ≤ l.periods ∧ l.periods ≤ 9) ∧ l.signs.length ≤ 200 ∧ ∀ (i : Nat) (s : Sign), l.signs[i]? = some s → signV l.periods (l.signs.take i) s = 0 := by
  unfold checkV at h
  split at h
  · cases h
  · split at h
    · cases h
    · refine ⟨by omega, by omega, fun i s hs => ?_⟩
      have := firstE_ne h i (List.getElem?_eq_some_iff.1 hs).1
      rwa [signAt, hs] at this
theorem sign_parts {p : Int} {b : List Sign} {s : Sign} (h : signV p b s = 0) : codeB s.code = true ∧ b.any (fun t => decide (t.code = s.code)) = false ∧ ¬ sizeBad s ∧ s.values.length ≤ 12 ∧ valuesV p s.values = 0 := by
  unfold signV at h
  split at h
  · cases h
  · rename_i h1
    rw [not_or] at h1
    unfold bodyV at h
    split at h
    · cases h
    · split at h
      · cases h
      · exact ⟨by simpa using h1.1, by simpa using h1.2, by assumption, by omega, h⟩
theorem value_at {p : Int} {l : List Value} (h : valuesV p l = 0) {k : Nat} {v : Value} (hv : l[k]? = some v) : (1 ≤ v.kind ∧ v.kind ≤ 3 ∧ textB v.kind v.text = true) ∧ (1 ≤ v.lo ∧ v.lo ≤ v.hi ∧ v.hi ≤ p) ∧ (l.take k).any (meetB v) = false := by
  have h0 := firstE_ne h k (List.getElem?_eq_some_iff.1 hv).1
  rw [valueAt, hv] at h0
  simp only at h0
  unfold valueV at h0
  split at h0
  · cases h0
  · split at h0
    · cases h0
    · split at h0
      · cases h0
      · rename_i a b c
        rw [not_or, not_or] at a b
        exact ⟨⟨by omega, by omega, by simpa using a.2.2⟩, ⟨by omega, by omega, by omega⟩, by simpa using c⟩
theorem dec_head : ∀ n : Nat, 0 < n → (Lib.decDigits n)[0]? ≠ some 48 := by
  intro n
  induction n using Nat.strongRecOn with
  | ind n ih =>
    intro hn h
    rw [Lib.decDigits] at h
    split at h
    · rw [List.getElem?_cons_zero, Option.some.injEq] at h
      have h1 := congrArg UInt8.toNat h
      rw [UInt8.toNat_ofNat'] at h1
      have : (48 : UInt8).toNat = 48 := rfl
      omega
    · have h2 := ih (n / 10) (by omega) (by omega)
      have hne : Lib.decDigits (n / 10) ≠ [] := fun e => by
        have := (dig_of_dec (n / 10)).2
        rw [e] at this
        have e0 : Lx.digV [] = 0 := rfl
        omega
      cases e : Lib.decDigits (n / 10) with
      | nil => exact hne e
      | cons a r => rw [e] at h h2; exact h2 h
end Sg
namespace Sg
open Go
def kindL (k : Int) : UInt8 := if k = 1 then 115 else if k = 2 then 119 else 99
def valW (v : Value) : List UInt8 := kindL v.kind :: 58 :: (v.text.data.toList ++ 64 :: (Lib.itoa v.lo ++ 45 :: Lib.itoa v.hi))
def sizeW (s : Sign) : List UInt8 := Lib.itoa s.wide ++ 120 :: Lib.itoa s.high
def markW (b : Bool) : List (List UInt8) := if b = true then [[61]] else []
def restW (s : Sign) : List (List UInt8) := sizeW s :: (markW s.even ++ s.values.map valW)
def lineJ (s : Sign) : List UInt8 := s.code.data.toList ++ (restW s).flatMap (32 :: ·)

theorem itoa_dec {n : Int} (h : 0 ≤ n) : Lib.itoa n = Lib.decDigits n.toNat := by unfold Lib.itoa; rw [if_neg (by omega)]
theorem dec_lenN : ∀ (k u : Nat), u < 10 ^ (k + 1) → (Lib.decDigits u).length ≤ k + 1 := by
  intro k
  induction k with
  | zero => intro u h; rw [Lib.decDigits_one (by simpa using h)]; simp
  | succ k ih =>
    intro u h
    by_cases hu : u < 10
    · rw [Lib.decDigits_one hu]; simp
    · rw [Lib.decDigits, dif_neg hu, List.length_append, List.length_singleton]
      have h2 : u / 10 < 10 ^ (k + 1) := by rw [Nat.pow_succ] at h; omega
      have := ih _ h2
      omega
theorem itoa_all {n : Int} (h : 0 ≤ n) : (Lib.itoa n).all Lx.digB = true := by rw [itoa_dec h]; exact (dig_of_dec _).1
theorem itoa_num {n : Int} (h : 0 ≤ n ∧ n ≤ 999) : Lx.numB (Lib.itoa n) 3 = true ∧ Lx.numV (Lib.itoa n) 3 = n := by
  rw [itoa_dec h.1]
  obtain ⟨h1, h2⟩ := dig_of_dec n.toNat
  have hl := dec_lenN 2 n.toNat (by have : (10 : Nat) ^ (2 + 1) = 1000 := rfl; omega)
  have hp : 1 ≤ (Lib.decDigits n.toNat).length := by
    rw [Lib.decDigits]
    split
    · simp
    · simp
  have hz : (decide ((Lib.decDigits n.toNat)[0]? = some 48) && decide (1 < (Lib.decDigits n.toNat).length)) = false := by
    rw [Bool.and_eq_false_iff, decide_eq_false_iff_not, decide_eq_false_iff_not]
    by_cases h0 : n.toNat = 0
    · right
      rw [h0, Lib.decDigits_one (by omega)]
      simp
    · exact .inl (dec_head _ (by omega))
  have hb : Lx.numB (Lib.decDigits n.toNat) 3 = true := by
    unfold Lx.numB
    rw [hz, h1, decide_eq_true hp, decide_eq_true (show ((Lib.decDigits n.toNat).length : Int) ≤ 3 by omega)]
    rfl
  refine ⟨hb, ?_⟩
  unfold Lx.numV
  rw [if_pos hb, h2]
  omega
theorem dig_not {l : List UInt8} (h : l.all Lx.digB = true) {c : UInt8} (hc : Lx.digB c = false) : c ∉ l := fun hm => by
  have := List.all_eq_true.1 h c hm
  rw [hc] at this
  cases this
/-- what is known of a value of a valid list -/
structure VFine (v : Value) : Prop where
  k : v.kind = 1 ∨ v.kind = 2 ∨ v.kind = 3
  t : textB v.kind v.text = true
  lo : 1 ≤ v.lo ∧ v.lo ≤ 9
  hi : 1 ≤ v.hi ∧ v.hi ≤ 9
structure SFine (s : Sign) : Prop where
  c : codeB s.code = true
  w : 1 ≤ s.wide ∧ s.wide ≤ 12
  h : 1 ≤ s.high ∧ s.high ≤ 12
  n : s.values.length ≤ 12
  vs : ∀ v ∈ s.values, VFine v
theorem fineS {l : SList} (h : checkV l = 0) : (1 ≤ l.periods ∧ l.periods ≤ 9) ∧ l.signs.length ≤ 200 ∧ ∀ s ∈ l.signs, SFine s := by
  obtain ⟨h1, h2, h3⟩ := check_sign h
  refine ⟨h1, h2, fun s hs => ?_⟩
  obtain ⟨i, hi⟩ := List.getElem?_of_mem hs
  obtain ⟨a, -, c, d, e⟩ := sign_parts (h3 i s hi)
  unfold sizeBad at c
  refine ⟨a, by omega, by omega, d, fun v hv => ?_⟩
  obtain ⟨k, hk⟩ := List.getElem?_of_mem hv
  obtain ⟨⟨v1, v2, v3⟩, ⟨v4, v5, v6⟩, -⟩ := value_at e hk
  exact ⟨by omega, v3, by omega, by omega⟩
theorem text_all {k : Int} {t : ByteArray} (h : textB k t = true) : (∀ b ∈ t.data.toList, Lx.letter b = true) ∧ t.data.toList ≠ [] ∧ t.size ≤ 8 := by
  unfold textB at h
  simp only [Bool.and_eq_true, decide_eq_true_eq] at h
  obtain ⟨⟨h1, h2⟩, h3⟩ := h
  have hlen : t.data.toList.length = t.size := rfl
  refine ⟨fun b hb => ?_, fun e => by rw [e] at hlen; simp at hlen; omega, h2⟩
  have := List.all_eq_true.1 h3 b hb
  unfold textC Lx.small upper at this
  unfold Lx.letter
  simp only [Bool.or_eq_true, Bool.and_eq_true] at this ⊢
  rcases this with h | h
  · exact .inl h
  · exact .inr h.2
theorem code_all {t : ByteArray} (h : codeB t = true) : (∀ b ∈ t.data.toList, alnum b = true) ∧ t.data.toList ≠ [] ∧ t.size ≤ 8 := by
  unfold codeB at h
  simp only [Bool.and_eq_true, decide_eq_true_eq] at h
  obtain ⟨⟨⟨h1, h2⟩, -⟩, h3⟩ := h
  have hlen : t.data.toList.length = t.size := rfl
  exact ⟨fun b hb => List.all_eq_true.1 h3 b hb, fun e => by rw [e] at hlen; simp at hlen; omega, h2⟩
theorem loose_of {l : List UInt8} {p : UInt8 → Bool} (h0 : l ≠ []) (h : ∀ b ∈ l, p b = true) (h1 : p 32 = false) (h2 : p 64 = false) (h3 : p 58 = false) : looseB l = true := by
  unfold looseB
  rw [Bool.and_eq_true]
  refine ⟨by simp [h0], List.all_eq_true.2 fun b hb => ?_⟩
  have hp := h b hb
  have e : ∀ c, p c = false → b ≠ c := fun c hc e => by rw [e, hc] at hp; cases hp
  simp [e 32 h1, e 64 h2, e 58 h3]
theorem free_of {l : List UInt8} {p : UInt8 → Bool} {c : UInt8} (h : ∀ b ∈ l, p b = true) (hc : p c = false) : c ∉ l := fun hm => by
  have := h c hm
  rw [hc] at this
  cases this
theorem two_itoa {a b : Int} (ha : 0 ≤ a ∧ a ≤ 999) (hb : 0 ≤ b ∧ b ≤ 999) {c : UInt8} (hc : Lx.digB c = false) : twoV (Lib.itoa a ++ c :: Lib.itoa b) c = some (a, b) := by
  unfold twoV
  rw [split_two (dig_not (itoa_all ha.1) hc) (dig_not (itoa_all hb.1) hc)]
  simp only
  rw [if_pos ⟨(itoa_num ha).1, (itoa_num hb).1⟩, (itoa_num ha).2, (itoa_num hb).2]
theorem kind_back {k : Int} (h : k = 1 ∨ k = 2 ∨ k = 3) : kindOf (kindL k) = k := by rcases h with rfl | rfl | rfl <;> rfl
theorem kind_clear {k : Int} (h : k = 1 ∨ k = 2 ∨ k = 3) : kindL k ≠ 32 ∧ kindL k ≠ 10 := by rcases h with rfl | rfl | rfl <;> exact ⟨by decide, by decide⟩
theorem val_back {v : Value} (h : VFine v) : valV (valW v) = some ⟨v.kind, v.text.data.toList, v.lo, v.hi⟩ := by
  rw [valV_shape]
  obtain ⟨t1, t2, t3⟩ := text_all h.t
  have hl := h.lo
  have hh := h.hi
  have hk := kind_back h.k
  refine ⟨kindL v.kind, v.text.data.toList, Lib.itoa v.lo ++ 45 :: Lib.itoa v.hi, v.lo, v.hi, rfl, loose_of t2 t1 rfl rfl rfl, ?_, two_itoa (by omega) (by omega) rfl, by rw [hk]⟩
  rw [hk]
  rcases h.k with e | e | e <;> rw [e] <;> decide
theorem val_clear {v : Value} (h : VFine v) {c : UInt8} (hc : c = 32 ∨ c = 10) : c ∉ valW v := by
  obtain ⟨t1, t2, t3⟩ := text_all h.t
  have hk := kind_clear h.k
  have hl := h.lo
  have hh := h.hi
  have hd : Lx.digB c = false := by rcases hc with rfl | rfl <;> rfl
  have hlt : Lx.letter c = false := by rcases hc with rfl | rfl <;> rfl
  unfold valW
  simp only [List.mem_cons, List.mem_append, not_or]
  refine ⟨?_, ?_, free_of t1 hlt, ?_, dig_not (itoa_all (by omega)) hd, ?_, dig_not (itoa_all (by omega)) hd⟩
  · rcases hc with rfl | rfl
    · exact fun e => hk.1 e.symm
    · exact fun e => hk.2 e.symm
  all_goals rcases hc with rfl | rfl <;> decide
theorem rest_clear {s : Sign} (h : SFine s) {c : UInt8} (hc : c = 32 ∨ c = 10) : ∀ w ∈ restW s, c ∉ w := by
  have hd : Lx.digB c = false := by rcases hc with rfl | rfl <;> rfl
  have hw := h.w
  have hh := h.h
  intro w hw'
  unfold restW at hw'
  rw [List.mem_cons, List.mem_append] at hw'
  rcases hw' with rfl | hw' | hw'
  · unfold sizeW
    simp only [List.mem_cons, List.mem_append, not_or]
    refine ⟨dig_not (itoa_all (by omega)) hd, ?_, dig_not (itoa_all (by omega)) hd⟩
    rcases hc with rfl | rfl <;> decide
  · unfold markW at hw'
    split at hw'
    · rw [List.mem_singleton] at hw'
      subst hw'
      rcases hc with rfl | rfl <;> decide
    · cases hw'
  · obtain ⟨v, hv, rfl⟩ := List.mem_map.1 hw'
    exact val_clear (h.vs v hv) hc
theorem code_clear {s : Sign} (h : SFine s) {c : UInt8} (hc : c = 32 ∨ c = 10) : c ∉ s.code.data.toList := free_of (code_all h.c).1 (by rcases hc with rfl | rfl <;> rfl)
theorem line_split {s : Sign} (h : SFine s) : Lib.split (lineJ s) [32] = s.code.data.toList :: restW s := Lx.split_byte _ _ (code_clear h (.inl rfl)) (rest_clear h (.inl rfl))
theorem vals_back {l : List Value} (h : ∀ v ∈ l, VFine v) : valsB (l.map valW) = true ∧ valsOf (l.map valW) = l := by
  induction l with
  | nil => exact ⟨rfl, rfl⟩
  | cons v l ih =>
    obtain ⟨i1, i2⟩ := ih fun u hu => h u (by simp [hu])
    have hv := val_back (h v (by simp))
    constructor
    · unfold valsB at i1 ⊢
      rw [List.map_cons, List.all_cons, i1, hv]
      rfl
    · unfold valsOf at i2 ⊢
      rw [List.map_cons, List.filterMap_cons, hv, i2]
      rfl
theorem line_back {s : Sign} (h : SFine s) : signL (Lib.split (lineJ s) [32]) = some s := by
  have hw := h.w
  have hh := h.h
  obtain ⟨c1, c2, c3⟩ := code_all h.c
  obtain ⟨v1, v2⟩ := vals_back h.vs
  have hm : marked (markW s.even ++ s.values.map valW) = s.even ∧ unmarked (markW s.even ++ s.values.map valW) = s.values.map valW := by
    cases he : s.even
    · have e : markW false ++ s.values.map valW = s.values.map valW := rfl
      rw [e]
      have e1 : marked (s.values.map valW) = false := by
        unfold marked
        cases s.values with
        | nil => rfl
        | cons v r => simp [valW]
      refine ⟨e1, ?_⟩
      unfold unmarked
      rw [e1]
      rfl
    · exact ⟨rfl, rfl⟩
  have hz : twoV (sizeW s) 120 = some (s.wide, s.high) := two_itoa (by omega) (by omega) rfl
  rw [line_split h]
  unfold restW
  rw [signL_some (loose_of c2 c1 rfl rfl rfl) hz (by rw [hm.2]; exact v1), hm.1, hm.2, v2]
  rfl
end Sg
