/- What a sign list is as text, and that it is read as this list: plain law. A sign list's text, sign by sign and value by value: plain law. -/
import Derived.Test.YtkmimjngmfdpmaaGreatDoorMmSgNamedPlain
import Derived.Lib.ItoaLen
namespace Sg
open Go
def kindL (k : Int) : UInt8 := if k = 1 then 115 else if k = 2 then 119 else 99
def valW (v : Value) : List UInt8 := kindL v.kind :: 58 :: (v.text.data.toList ++ 64 :: (Lib.itoa v.lo ++ 45 :: Lib.itoa v.hi))
def sizeW (s : Sign) : List UInt8 := Lib.itoa s.wide ++ 120 :: Lib.itoa s.high
def markW (b : Bool) : List (List UInt8) := if b = true then [[61]] else []
def restW (s : Sign) : List (List UInt8) := sizeW s :: (markW s.even ++ s.values.map valW)
def lineJ (s : Sign) : List UInt8 := s.code.data.toList ++ (restW s).flatMap (32 :: ·)
def lineW (s : Sign) : List UInt8 := lineJ s ++ [10]
def headJ (p : Int) : List UInt8 := perB ++ 32 :: Lib.itoa p
def fmtL (l : SList) : List UInt8 := (headJ l.periods ++ [10]) ++ l.signs.flatMap lineW
def formatV (l : SList) : List UInt8 := if checkV l = 0 then fmtL l else []

theorem itoa_dec {n : Int} (h : 0 ≤ n) : Lib.itoa n = Lib.decDigits n.toNat := by unfold Lib.itoa; rw [if_neg (by omega)]
theorem dec_lenN : ∀ (k u : Nat), u < 10 ^ (k + 1) → (Lib.decDigits u).length ≤ k + 1 := by
  intro k
  induction k with
  | zero => intro u h; rw [Lib.decDigits_one (by simpa using h)]; simp
  | succ k ih =>
    intro u h
    by_cases hu : u < 10
    · rw [Lib.decDigits_one hu]; simp
    · rw [Lib.decDigits, dif_neg hu, List.length_append, List.length_singleton]
      have h2 : u / 10 < 10 ^ (k + 1) := by rw [Nat.pow_succ] at h; omega
      have := ih _ h2
      omega
theorem itoa_one {n : Int} (h : 0 ≤ n ∧ n ≤ 9) : (Lib.itoa n).length ≤ 1 := by
  rw [itoa_dec h.1]
  exact dec_lenN 0 _ (by have : (10 : Nat) ^ (0 + 1) = 10 := rfl; omega)
theorem itoa_two {n : Int} (h : 0 ≤ n ∧ n ≤ 99) : (Lib.itoa n).length ≤ 2 := by
  rw [itoa_dec h.1]
  exact dec_lenN 1 _ (by have : (10 : Nat) ^ (1 + 1) = 100 := rfl; omega)
theorem itoa_all {n : Int} (h : 0 ≤ n) : (Lib.itoa n).all Lx.digB = true := by rw [itoa_dec h]; exact (dig_of_dec _).1
theorem itoa_num {n : Int} (h : 0 ≤ n ∧ n ≤ 999) : Lx.numB (Lib.itoa n) 3 = true ∧ Lx.numV (Lib.itoa n) 3 = n := by
  rw [itoa_dec h.1]
  obtain ⟨h1, h2⟩ := dig_of_dec n.toNat
  have hl := dec_lenN 2 n.toNat (by have : (10 : Nat) ^ (2 + 1) = 1000 := rfl; omega)
  have hp : 1 ≤ (Lib.decDigits n.toNat).length := by
    rw [Lib.decDigits]
    split
    · simp
    · simp
  have hz : (decide ((Lib.decDigits n.toNat)[0]? = some 48) && decide (1 < (Lib.decDigits n.toNat).length)) = false := by
    rw [Bool.and_eq_false_iff, decide_eq_false_iff_not, decide_eq_false_iff_not]
    by_cases h0 : n.toNat = 0
    · right
      rw [h0, Lib.decDigits_one (by omega)]
      simp
    · exact .inl (dec_head _ (by omega))
  have hb : Lx.numB (Lib.decDigits n.toNat) 3 = true := by
    unfold Lx.numB
    rw [hz, h1, decide_eq_true hp, decide_eq_true (show ((Lib.decDigits n.toNat).length : Int) ≤ 3 by omega)]
    rfl
  refine ⟨hb, ?_⟩
  unfold Lx.numV
  rw [if_pos hb, h2]
  omega
theorem dig_not {l : List UInt8} (h : l.all Lx.digB = true) {c : UInt8} (hc : Lx.digB c = false) : c ∉ l := fun hm => by
  have := List.all_eq_true.1 h c hm
  rw [hc] at this
  cases this
/-- what is known of a value of a valid list -/
structure VFine (v : Value) : Prop where
  k : v.kind = 1 ∨ v.kind = 2 ∨ v.kind = 3
  t : textB v.kind v.text = true
  lo : 1 ≤ v.lo ∧ v.lo ≤ 9
  hi : 1 ≤ v.hi ∧ v.hi ≤ 9
structure SFine (s : Sign) : Prop where
  c : codeB s.code = true
  w : 1 ≤ s.wide ∧ s.wide ≤ 12
  h : 1 ≤ s.high ∧ s.high ≤ 12
  n : s.values.length ≤ 12
  vs : ∀ v ∈ s.values, VFine v
theorem fineS {l : SList} (h : checkV l = 0) : (1 ≤ l.periods ∧ l.periods ≤ 9) ∧ l.signs.length ≤ 200 ∧ ∀ s ∈ l.signs, SFine s := by
  obtain ⟨h1, h2, h3⟩ := check_sign h
  refine ⟨h1, h2, fun s hs => ?_⟩
  obtain ⟨i, hi⟩ := List.getElem?_of_mem hs
  obtain ⟨a, -, c, d, e⟩ := sign_parts (h3 i s hi)
  unfold sizeBad at c
  refine ⟨a, by omega, by omega, d, fun v hv => ?_⟩
  obtain ⟨k, hk⟩ := List.getElem?_of_mem hv
  obtain ⟨⟨v1, v2, v3⟩, ⟨v4, v5, v6⟩, -⟩ := value_at e hk
  exact ⟨by omega, v3, by omega, by omega⟩
theorem text_all {k : Int} {t : ByteArray} (h : textB k t = true) : (∀ b ∈ t.data.toList, Lx.letter b = true) ∧ t.data.toList ≠ [] ∧ t.size ≤ 8 := by
  unfold textB at h
  simp only [Bool.and_eq_true, decide_eq_true_eq] at h
  obtain ⟨⟨h1, h2⟩, h3⟩ := h
  have hlen : t.data.toList.length = t.size := rfl
  refine ⟨fun b hb => ?_, fun e => by rw [e] at hlen; simp at hlen; omega, h2⟩
  have := List.all_eq_true.1 h3 b hb
  unfold textC Lx.small upper at this
  unfold Lx.letter
  simp only [Bool.or_eq_true, Bool.and_eq_true] at this ⊢
  rcases this with h | h
  · exact .inl h
  · exact .inr h.2
theorem code_all {t : ByteArray} (h : codeB t = true) : (∀ b ∈ t.data.toList, alnum b = true) ∧ t.data.toList ≠ [] ∧ t.size ≤ 8 := by
  unfold codeB at h
  simp only [Bool.and_eq_true, decide_eq_true_eq] at h
  obtain ⟨⟨⟨h1, h2⟩, -⟩, h3⟩ := h
  have hlen : t.data.toList.length = t.size := rfl
  exact ⟨fun b hb => List.all_eq_true.1 h3 b hb, fun e => by rw [e] at hlen; simp at hlen; omega, h2⟩
theorem loose_of {l : List UInt8} {p : UInt8 → Bool} (h0 : l ≠ []) (h : ∀ b ∈ l, p b = true) (h1 : p 32 = false) (h2 : p 64 = false) (h3 : p 58 = false) : looseB l = true := by
  unfold looseB
  rw [Bool.and_eq_true]
  refine ⟨by simp [h0], List.all_eq_true.2 fun b hb => ?_⟩
  have hp := h b hb
  have e : ∀ c, p c = false → b ≠ c := fun c hc e => by rw [e, hc] at hp; cases hp
  simp [e 32 h1, e 64 h2, e 58 h3]
theorem free_of {l : List UInt8} {p : UInt8 → Bool} {c : UInt8} (h : ∀ b ∈ l, p b = true) (hc : p c = false) : c ∉ l := fun hm => by
  have := h c hm
  rw [hc] at this
  cases this
theorem two_itoa {a b : Int} (ha : 0 ≤ a ∧ a ≤ 999) (hb : 0 ≤ b ∧ b ≤ 999) {c : UInt8} (hc : Lx.digB c = false) : twoV (Lib.itoa a ++ c :: Lib.itoa b) c = some (a, b) := by
  unfold twoV
  rw [split_two (dig_not (itoa_all ha.1) hc) (dig_not (itoa_all hb.1) hc)]
  simp only
  rw [if_pos ⟨(itoa_num ha).1, (itoa_num hb).1⟩, (itoa_num ha).2, (itoa_num hb).2]
theorem kind_back {k : Int} (h : k = 1 ∨ k = 2 ∨ k = 3) : kindOf (kindL k) = k := by rcases h with rfl | rfl | rfl <;> rfl
theorem kind_clear {k : Int} (h : k = 1 ∨ k = 2 ∨ k = 3) : kindL k ≠ 32 ∧ kindL k ≠ 10 := by rcases h with rfl | rfl | rfl <;> exact ⟨by decide, by decide⟩
theorem val_back {v : Value} (h : VFine v) : valV (valW v) = some ⟨v.kind, v.text.data.toList, v.lo, v.hi⟩ := by
  rw [valV_shape]
  obtain ⟨t1, t2, t3⟩ := text_all h.t
  have hl := h.lo
  have hh := h.hi
  have hk := kind_back h.k
  refine ⟨kindL v.kind, v.text.data.toList, Lib.itoa v.lo ++ 45 :: Lib.itoa v.hi, v.lo, v.hi, rfl, loose_of t2 t1 rfl rfl rfl, ?_, two_itoa (by omega) (by omega) rfl, by rw [hk]⟩
  rw [hk]
  rcases h.k with e | e | e <;> rw [e] <;> decide
theorem val_clear {v : Value} (h : VFine v) {c : UInt8} (hc : c = 32 ∨ c = 10) : c ∉ valW v := by
  obtain ⟨t1, t2, t3⟩ := text_all h.t
  have hk := kind_clear h.k
  have hl := h.lo
  have hh := h.hi
  have hd : Lx.digB c = false := by rcases hc with rfl | rfl <;> rfl
  have hlt : Lx.letter c = false := by rcases hc with rfl | rfl <;> rfl
  unfold valW
  simp only [List.mem_cons, List.mem_append, not_or]
  refine ⟨?_, ?_, free_of t1 hlt, ?_, dig_not (itoa_all (by omega)) hd, ?_, dig_not (itoa_all (by omega)) hd⟩
  · rcases hc with rfl | rfl
    · exact fun e => hk.1 e.symm
    · exact fun e => hk.2 e.symm
  all_goals rcases hc with rfl | rfl <;> decide
theorem rest_clear {s : Sign} (h : SFine s) {c : UInt8} (hc : c = 32 ∨ c = 10) : ∀ w ∈ restW s, c ∉ w := by
  have hd : Lx.digB c = false := by rcases hc with rfl | rfl <;> rfl
  have hw := h.w
  have hh := h.h
  intro w hw'
  unfold restW at hw'
  rw [List.mem_cons, List.mem_append] at hw'
  rcases hw' with rfl | hw' | hw'
  · unfold sizeW
    simp only [List.mem_cons, List.mem_append, not_or]
    refine ⟨dig_not (itoa_all (by omega)) hd, ?_, dig_not (itoa_all (by omega)) hd⟩
    rcases hc with rfl | rfl <;> decide
  · unfold markW at hw'
    split at hw'
    · rw [List.mem_singleton] at hw'
      subst hw'
      rcases hc with rfl | rfl <;> decide
    · cases hw'
  · obtain ⟨v, hv, rfl⟩ := List.mem_map.1 hw'
    exact val_clear (h.vs v hv) hc
theorem code_clear {s : Sign} (h : SFine s) {c : UInt8} (hc : c = 32 ∨ c = 10) : c ∉ s.code.data.toList := free_of (code_all h.c).1 (by rcases hc with rfl | rfl <;> rfl)
theorem line_split {s : Sign} (h : SFine s) : Lib.split (lineJ s) [32] = s.code.data.toList :: restW s := Lx.split_byte _ _ (code_clear h (.inl rfl)) (rest_clear h (.inl rfl))
theorem line_clear {s : Sign} (h : SFine s) : (10 : UInt8) ∉ lineJ s := by
  unfold lineJ
  rw [List.mem_append, List.mem_flatMap]
  rintro (q | ⟨w, hw, q⟩)
  · exact code_clear h (.inr rfl) q
  · rcases List.mem_cons.1 q with q | q
    · cases q
    · exact rest_clear h (.inr rfl) w hw q
theorem vals_back {l : List Value} (h : ∀ v ∈ l, VFine v) : valsB (l.map valW) = true ∧ valsOf (l.map valW) = l := by
  induction l with
  | nil => exact ⟨rfl, rfl⟩
  | cons v l ih =>
    obtain ⟨i1, i2⟩ := ih fun u hu => h u (by simp [hu])
    have hv := val_back (h v (by simp))
    constructor
    · unfold valsB at i1 ⊢
      rw [List.map_cons, List.all_cons, i1, hv]
      rfl
    · unfold valsOf at i2 ⊢
      rw [List.map_cons, List.filterMap_cons, hv, i2]
      rfl
theorem line_back {s : Sign} (h : SFine s) : signL (Lib.split (lineJ s) [32]) = some s := by
  have hw := h.w
  have hh := h.h
  obtain ⟨c1, c2, c3⟩ := code_all h.c
  obtain ⟨v1, v2⟩ := vals_back h.vs
  have hm : marked (markW s.even ++ s.values.map valW) = s.even ∧ unmarked (markW s.even ++ s.values.map valW) = s.values.map valW := by
    cases he : s.even
    · have e : markW false ++ s.values.map valW = s.values.map valW := rfl
      rw [e]
      have e1 : marked (s.values.map valW) = false := by
        unfold marked
        cases s.values with
        | nil => rfl
        | cons v r => simp [valW]
      refine ⟨e1, ?_⟩
      unfold unmarked
      rw [e1]
      rfl
    · exact ⟨rfl, rfl⟩
  have hz : twoV (sizeW s) 120 = some (s.wide, s.high) := two_itoa (by omega) (by omega) rfl
  rw [line_split h]
  unfold restW
  rw [signL_some (loose_of c2 c1 rfl rfl rfl) hz (by rw [hm.2]; exact v1), hm.1, hm.2, v2]
  rfl
theorem head_back {p : Int} (h : 1 ≤ p ∧ p ≤ 9) : headV (headJ p) = some p ∧ (10 : UInt8) ∉ headJ p := by
  have hn := itoa_num (n := p) ⟨by omega, by omega⟩
  constructor
  · unfold headV headJ
    rw [split_two (by decide) (dig_not (itoa_all (by omega)) rfl)]
    simp [hn.1, hn.2]
  · unfold headJ
    simp only [List.mem_cons, List.mem_append, not_or]
    exact ⟨by decide, by decide, dig_not (itoa_all (by omega)) rfl⟩
theorem pst_piece (c : UInt8) : ∀ (b : List UInt8) (acc : List (List UInt8)) (cur : List UInt8), c ∉ b → b.foldl (fun s b => if b = c then (s.1 ++ [s.2], []) else (s.1, s.2 ++ [b])) (acc, cur) = (acc, cur ++ b)
  | [], acc, cur, _ => by simp
  | x :: b, acc, cur, h => by
    simp only [List.mem_cons, not_or] at h
    rw [List.foldl_cons, if_neg (fun e => h.1 e.symm), pst_piece c b acc (cur ++ [x]) h.2]
    simp
theorem pst_rows (c : UInt8) : ∀ (bs : List (List UInt8)) (acc : List (List UInt8)), (∀ b ∈ bs, c ∉ b) → (bs.flatMap (· ++ [c])).foldl (fun s b => if b = c then (s.1 ++ [s.2], []) else (s.1, s.2 ++ [b])) (acc, []) = (acc ++ bs, [])
  | [], acc, _ => by simp
  | b :: bs, acc, h => by
    rw [List.flatMap_cons, List.foldl_append, List.foldl_append, pst_piece c b acc [] (h b (by simp)), List.foldl_cons, List.foldl_nil]
    simp only [if_true, List.nil_append]
    rw [pst_rows c bs (acc ++ [b]) fun d hd => h d (by simp [hd])]
    simp
theorem rows_len {α : Type} {f : α → List UInt8} {N : Nat} : ∀ {l : List α}, (∀ a ∈ l, (f a).length ≤ N) → (l.flatMap f).length ≤ l.length * N
  | [], _ => by simp
  | a :: r, h => by
    have h1 := rows_len (l := r) fun b hb => h b (by simp [hb])
    have h2 := h a (by simp)
    simp only [List.flatMap_cons, List.length_append, List.length_cons, Nat.succ_mul]
    omega
theorem val_len {v : Value} (h : VFine v) : (valW v).length ≤ 14 := by
  have h1 := (text_all h.t).2.2
  have h0 : v.text.data.toList.length = v.text.size := rfl
  have hl := h.lo
  have hh := h.hi
  have h2 := itoa_one (n := v.lo) ⟨by omega, by omega⟩
  have h3 := itoa_one (n := v.hi) ⟨by omega, by omega⟩
  unfold valW
  simp only [List.length_cons, List.length_append]
  omega
theorem line_lenS {s : Sign} (h : SFine s) : (lineW s).length ≤ 200 := by
  have hw := h.w
  have hh := h.h
  have h1 := (code_all h.c).2.2
  have h0 : s.code.data.toList.length = s.code.size := rfl
  have h2 := itoa_two (n := s.wide) ⟨by omega, by omega⟩
  have h3 := itoa_two (n := s.high) ⟨by omega, by omega⟩
  have h4 : ((s.values.map valW).flatMap (32 :: ·)).length ≤ 12 * 15 := by
    have := rows_len (f := fun w => (32 : UInt8) :: w) (N := 15) (l := s.values.map valW) (fun w hw => by
      obtain ⟨v, hv, rfl⟩ := List.mem_map.1 hw
      have := val_len (h.vs v hv)
      simp only [List.length_cons]
      omega)
    rw [List.length_map] at this
    have hn := h.n
    omega
  have h5 : ((markW s.even).flatMap (32 :: ·)).length ≤ 2 := by unfold markW; split <;> simp
  unfold lineW lineJ restW sizeW
  simp only [List.length_append, List.flatMap_cons, List.flatMap_append, List.length_cons, List.length_nil]
  omega
/-- a valid list's text is read asq this list -/
theorem parse_format {l : SList} (h : checkV l = 0) : parseV (formatV l) = (l, 0, 0) ∧ (formatV l).length ≤ 60000 := by
  obtain ⟨hp, hn, hs⟩ := fineS h
  have hfm : formatV l = fmtL l := by unfold formatV; rw [if_pos h]
  have hlen : (formatV l).length ≤ 60000 := by
    rw [hfm]
    have h1 := rows_len (f := lineW) (N := 200) (l := l.signs) fun s hm => line_lenS (hs s hm)
    have h2 := itoa_one (n := l.periods) ⟨by omega, by omega⟩
    have h3 : perB.length = 7 := rfl
    unfold fmtL headJ
    simp only [List.length_append, List.length_cons, List.length_nil]
    omega
  refine ⟨?_, hlen⟩
  obtain ⟨L, hL⟩ : ∃ L, L = headJ l.periods :: l.signs.map lineJ := ⟨_, rfl⟩
  have hfl : formatV l = L.flatMap (· ++ [10]) := by
    rw [hfm, hL, List.flatMap_cons, List.flatMap_map]
    rfl
  have hclr : ∀ b ∈ L, (10 : UInt8) ∉ b := by
    rw [hL]
    intro b hb
    rcases List.mem_cons.1 hb with rfl | hb
    · exact (head_back hp).2
    · obtain ⟨s, hm, rfl⟩ := List.mem_map.1 hb
      exact line_clear (hs s hm)
  have hps : Lx.pst 10 (formatV l) = (L, []) := by
    rw [hfl]
    have := pst_rows 10 L [] hclr
    simpa [Lx.pst] using this
  have hok : ∀ j, j < L.length → okLine L j = true := by
    intro j hj
    rw [hL] at hj ⊢
    cases j with
    | zero =>
      rw [okLine_head (x := headJ l.periods) rfl, (head_back hp).1]
      rfl
    | succ j =>
      rw [List.length_cons, List.length_map] at hj
      have hx : (headJ l.periods :: l.signs.map lineJ)[j + 1]? = some (lineJ l.signs[j]) := by
        rw [List.getElem?_cons_succ, List.getElem?_map, List.getElem?_eq_getElem (by omega)]
        rfl
      rw [okLine_sign (by omega) hx, line_back (hs _ (List.getElem_mem _))]
      rfl
  have hll : listL L = l := by
    have e1 : periodsL L = l.periods := by
      rw [hL]
      unfold periodsL
      rw [List.getElem?_cons_zero]
      simp only
      rw [(head_back hp).1]
      rfl
    have e2 : signsL L = l.signs := by
      rw [hL]
      unfold signsL
      rw [List.tail_cons]
      have key : ∀ S : List Sign, (∀ s ∈ S, SFine s) → (S.map lineJ).filterMap (fun x => signL (Lib.split x [32])) = S := by
        intro S hS
        induction S with
        | nil => rfl
        | cons s S ih =>
          rw [List.map_cons, List.filterMap_cons, line_back (hS s (by simp))]
          simp only
          rw [ih fun t ht => hS t (by simp [ht])]
      exact key _ hs
    unfold listL
    rw [e1, e2]
  unfold parseV
  rw [if_neg (by omega), hps]
  simp only
  rw [parse_done hok rfl (by rw [hL]; simp), hll, if_pos h]
end Sg
namespace Sg
open Go
/-- a sign's line up to a value -/
def lineP (s : Sign) (j : Nat) : List UInt8 := s.code.data.toList ++ (sizeW s :: (markW s.even ++ (s.values.take j).map valW)).flatMap (32 :: ·)
def fmtP (l : SList) (k : Nat) : List UInt8 := (headJ l.periods ++ [10]) ++ (l.signs.take k).flatMap lineW
theorem lineP_even {s : Sign} (h : s.even = true) : lineP s 0 = s.code.data.toList ++ 32 :: (Lib.itoa s.wide ++ 120 :: Lib.itoa s.high) ++ [32, 61] := by
  unfold lineP sizeW markW
  simp [h]
theorem lineP_odd {s : Sign} (h : s.even = false) : lineP s 0 = s.code.data.toList ++ 32 :: (Lib.itoa s.wide ++ 120 :: Lib.itoa s.high) := by
  unfold lineP sizeW markW
  simp [h]
theorem lineP_next {s : Sign} {j : Nat} {v : Value} (h : s.values[j]? = some v) : lineP s (j + 1) = lineP s j ++ 32 :: valW v := by
  have e : s.values.take (j + 1) = s.values.take j ++ [v] := by rw [List.take_add_one, h]; rfl
  unfold lineP
  rw [e, List.map_append]
  simp [List.flatMap_append, List.flatMap_cons]
theorem lineP_all {s : Sign} {j : Nat} (h : s.values.length ≤ j) : lineP s j = lineJ s := by
  unfold lineP lineJ restW
  rw [List.take_of_length_le h]
theorem fmtP_next {l : SList} {k : Nat} {s : Sign} (h : l.signs[k]? = some s) : fmtP l (k + 1) = fmtP l k ++ (lineJ s ++ [10]) := by
  have e : l.signs.take (k + 1) = l.signs.take k ++ [s] := by rw [List.take_add_one, h]; rfl
  unfold fmtP
  rw [e, List.flatMap_append]
  simp [lineW]
theorem fmtP_all {l : SList} {k : Nat} (h : l.signs.length ≤ k) : fmtP l k = fmtL l := by
  unfold fmtP fmtL
  rw [List.take_of_length_le h]
theorem fmtP_zero (l : SList) : fmtP l 0 = perB ++ 32 :: (Lib.itoa l.periods ++ [10]) := by
  unfold fmtP headJ
  simp
theorem fmtP_len {l : SList} (h : checkV l = 0) (k : Nat) : (fmtP l k).length ≤ 60000 := by
  obtain ⟨hp, hn, hs⟩ := fineS h
  have h1 := rows_len (f := lineW) (N := 200) (l := l.signs.take k) fun s hm => line_lenS (hs s (List.mem_of_mem_take hm))
  have h2 := itoa_one (n := l.periods) ⟨by omega, by omega⟩
  have h3 : perB.length = 7 := rfl
  have h4 : (l.signs.take k).length ≤ l.signs.length := by rw [List.length_take]; omega
  unfold fmtP headJ
  simp only [List.length_append, List.length_cons, List.length_nil]
  have h5 : (l.signs.take k).length * 200 ≤ 200 * 200 := Nat.mul_le_mul_right 200 (by omega)
  omega
theorem lineP_len {s : Sign} (h : SFine s) (j : Nat) : (lineP s j).length ≤ 400 := by
  have hw := h.w
  have hh := h.h
  have h1 := (code_all h.c).2.2
  have h0 : s.code.data.toList.length = s.code.size := rfl
  have h2 := itoa_two (n := s.wide) ⟨by omega, by omega⟩
  have h3 := itoa_two (n := s.high) ⟨by omega, by omega⟩
  have h4 : (((s.values.take j).map valW).flatMap (32 :: ·)).length ≤ 12 * 15 := by
    have := rows_len (f := fun w => (32 : UInt8) :: w) (N := 15) (l := (s.values.take j).map valW) (fun w hw => by
      obtain ⟨v, hv, rfl⟩ := List.mem_map.1 hw
      have := val_len (h.vs v (List.mem_of_mem_take hv))
      simp only [List.length_cons]
      omega)
    rw [List.length_map, List.length_take] at this
    have hn := h.n
    have : min j s.values.length * 15 ≤ 12 * 15 := Nat.mul_le_mul_right 15 (by omega)
    omega
  have h5 : ((markW s.even).flatMap (32 :: ·)).length ≤ 2 := by unfold markW; split <;> simp
  unfold lineP sizeW
  simp only [List.length_append, List.flatMap_cons, List.flatMap_append, List.length_cons]
  omega
end Sg
