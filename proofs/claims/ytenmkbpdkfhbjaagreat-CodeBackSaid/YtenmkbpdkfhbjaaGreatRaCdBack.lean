/- What is written is read as it was: plain law of the line code. -/
import Derived.Test.YtenmkbpdkfhbjaaGreatRaCdGrow
namespace Cd
open Go
mutual
def normI : Item → Item
  | .mk n c _ ks => .mk { n with sign := (if n.kind = 1 then 0 else n.sign), depth := 0 } (if n.kind = 1 then c else []) 0 (normL ks)
def normL : List Item → List Item
  | [] => []
  | x :: xs => normI x :: normL xs
end
/-- what may stand behind a leaf (0), a pair (1), a row (2), a column (3) -/
def stops : Nat → List UInt8
  | 0 => [38, 42, 58, 45, 62, 93, 59, 41, 32]
  | 1 => [42, 58, 45, 62, 93, 59, 41, 32]
  | 2 => [58, 45, 62, 93, 59, 41, 32]
  | _ => [45, 62, 93, 59, 41, 32]
def St (n : Nat) (r : List UInt8) : Prop := ∀ c ∈ r.head?, c ∈ stops n
/-- a code of a sign -/
structure CodeOk (c : List UInt8) : Prop where
  len : c.length ≤ 8
  head : ∃ u w, c = u :: w ∧ upperB u = true ∧ ∀ b ∈ w, wordB b = true
structure LeafOk (line : Bool) (n : Tx.Node) (c : List UInt8) : Prop where
  kind : n.kind = 1
  code : CodeOk c
  turn : 0 ≤ n.turn ∧ n.turn ≤ 3
  st : 0 ≤ n.state ∧ n.state ≤ 3
  tree : line = false → n.state = 0
  rest : n.lo = 0 ∧ n.hi = 0
structure GapOk (n : Tx.Node) : Prop where
  kind : n.kind = 6
  lo : 0 ≤ n.lo ∧ n.lo ≤ 9
  hi : 0 ≤ n.hi ∧ n.hi ≤ 9
  rest : n.sign = 0 ∧ n.turn = 0 ∧ n.mirror = false ∧ n.state = 0
section
variable {s : List UInt8}
theorem at_drop (k : Nat) : s[k]? = (s.drop k).head? := by rw [List.head?_drop]
theorem sees_yes {k : Nat} {c : UInt8} {r : List UInt8} (h : s.drop k = c :: r) : sees s k c = true := by unfold sees; rw [at_drop, h]; simp
theorem sees_no {k : Nat} {c : UInt8} {r : List UInt8} (h : s.drop k = r) (hc : ∀ b ∈ r.head?, b ≠ c) : sees s k c = false := by
  unfold sees
  rw [at_drop, h]
  cases hr : r.head? with
  | none => rfl
  | some b =>
    have := hc b (by rw [hr]; rfl)
    simp [this]
theorem drop_add {k : Nat} {u r : List UInt8} (h : s.drop k = u ++ r) : s.drop (k + u.length) = r := by
  rw [← List.drop_drop, h, List.drop_left]
theorem drop_one {k : Nat} {c : UInt8} {r : List UInt8} (h : s.drop k = c :: r) : s.drop (k + 1) = r := by
  have := drop_add (u := [c]) h
  exact this
theorem must_yes {k : Nat} {c : UInt8} {r : List UInt8} (h : s.drop k = c :: r) : must s k c = .ok () (k + 1) := by unfold must; rw [if_pos (sees_yes h)]
theorem digit_itoa {a : Int} (h : 0 ≤ a ∧ a ≤ 9) : ∃ c : UInt8, Lib.itoa a = [c] ∧ (c.toNat : Int) = a + 48 ∧ 48 ≤ c ∧ c ≤ 57 := by
  have : a = 0 ∨ a = 1 ∨ a = 2 ∨ a = 3 ∨ a = 4 ∨ a = 5 ∨ a = 6 ∨ a = 7 ∨ a = 8 ∨ a = 9 := by omega
  have key : ∀ (c : UInt8), 48 ≤ c ∧ c ≤ 57 → ((c.toNat : Int) - 48 = a) → ∃ c : UInt8, Lib.itoa a = [c] ∧ (c.toNat : Int) = a + 48 ∧ 48 ≤ c ∧ c ≤ 57 := fun c hc e => ⟨c, by rw [← e]; exact itoa_digit hc, by omega, hc.1, hc.2⟩
  rcases this with rfl | rfl | rfl | rfl | rfl | rfl | rfl | rfl | rfl | rfl
  · exact key 48 (by decide) (by decide)
  · exact key 49 (by decide) (by decide)
  · exact key 50 (by decide) (by decide)
  · exact key 51 (by decide) (by decide)
  · exact key 52 (by decide) (by decide)
  · exact key 53 (by decide) (by decide)
  · exact key 54 (by decide) (by decide)
  · exact key 55 (by decide) (by decide)
  · exact key 56 (by decide) (by decide)
  · exact key 57 (by decide) (by decide)
theorem digit_back {lo hi : UInt8} {k : Nat} {a : Int} {r : List UInt8} (h : s.drop k = Lib.itoa a ++ r) (ha : 0 ≤ a ∧ a ≤ 9) (hb : (lo.toNat : Int) ≤ a + 48 ∧ a + 48 ≤ (hi.toNat : Int)) : digitG s lo hi k = .ok a (k + 1) ∧ s.drop (k + 1) = r := by
  obtain ⟨c, e, e2, -, -⟩ := digit_itoa ha
  rw [e] at h
  have hd : s.drop k = c :: r := h
  refine ⟨?_, drop_one hd⟩
  unfold digitG
  rw [at_drop, hd]
  simp only [List.head?_cons]
  rw [if_pos ⟨UInt8.le_iff_toNat_le.2 (by omega), UInt8.le_iff_toNat_le.2 (by omega)⟩, e2]
  congr 1
  omega
theorem stop_word {n : Nat} {r : List UInt8} (h : St n r) : ∀ b ∈ r.head?, wordB b = false ∧ b ≠ 92 ∧ b ≠ 47 ∧ b ≠ 35 ∧ b ≠ 61 ∧ b ≠ 33 := by
  intro b hb
  have h0 : ∀ b ∈ stops 0, wordB b = false ∧ b ≠ 92 ∧ b ≠ 47 ∧ b ≠ 35 ∧ b ≠ 61 ∧ b ≠ 33 := by decide
  have hs : ∀ n, ∀ b ∈ stops n, b ∈ stops 0 := by
    intro n b hb
    match n with
    | 0 => exact hb
    | 1 => revert b; decide
    | 2 => revert b; decide
    | n + 3 => revert b; show ∀ b ∈ stops 3, b ∈ stops 0; decide
  exact h0 b (hs n b (h b hb))
/-- what follows a code within a leaf or behind it is no part of a code -/
theorem code_end {k : Nat} {c t : List UInt8} (hc : CodeOk c) (h : s.drop k = c ++ t) (ht : ∀ b ∈ t.head?, wordB b = false) : codeEnd s k = k + c.length := by
  obtain ⟨u, w, rfl, -, hw⟩ := hc.head
  have hl := hc.len
  have hd : s.drop (k + 1) = w ++ t := drop_one h
  unfold codeEnd
  rw [hd]
  have h1 : (w ++ t).take 7 = w ++ t.take (7 - w.length) := by
    rw [List.take_append, List.take_of_length_le (by simp at hl; omega)]
  have h2 : (w ++ t.take (7 - w.length)).takeWhile wordB = w := by
    rw [List.takeWhile_append_of_pos hw]
    have : (t.take (7 - w.length)).takeWhile wordB = [] := by
      cases t with
      | nil => simp
      | cons b t =>
        have hb := ht b rfl
        cases 7 - w.length with
        | zero => rfl
        | succ m => rw [List.take_succ_cons, List.takeWhile_cons, hb]; rfl
    rw [this, List.append_nil]
  rw [h1, h2, List.length_cons]
  omega
theorem state_of {n : Int} (h : 0 ≤ n ∧ n ≤ 3) (r : List UInt8) (hr : ∀ b ∈ r.head?, b ≠ 35 ∧ b ≠ 61 ∧ b ≠ 33) : stateOf ((if n = 1 then [35] else if n = 2 then [61] else if n = 3 then [33] else []) ++ r).head? = n := by
  have : n = 0 ∨ n = 1 ∨ n = 2 ∨ n = 3 := by omega
  rcases this with rfl | rfl | rfl | rfl
  · show stateOf r.head? = 0
    cases hh : r.head? with
    | none => rfl
    | some b =>
      obtain ⟨a1, a2, a3⟩ := hr b (by rw [hh]; rfl)
      unfold stateOf
      simp [a1, a2, a3]
  · rfl
  · rfl
  · rfl
theorem glyph_back {line : Bool} {k : Nat} {n : Tx.Node} {c r : List UInt8} (hn : LeafOk line n c) (h : s.drop k = leafU line n c ++ r) (hr : St 0 r) : glyphG s line k = .ok (.mk (glyphN n.turn n.mirror n.state) c k []) (k + (leafU line n c).length) := by
  have hs := stop_word hr
  obtain ⟨S, hS⟩ : ∃ S, S = (if line = true then (if n.state = 1 then [35] else if n.state = 2 then [61] else if n.state = 3 then [33] else []) else ([] : List UInt8)) := ⟨_, rfl⟩
  obtain ⟨T, hT⟩ : ∃ T, T = (if 0 < n.turn then 47 :: Lib.itoa n.turn else ([] : List UInt8)) := ⟨_, rfl⟩
  obtain ⟨M, hM⟩ : ∃ M, M = (if n.mirror = true then [92] else ([] : List UInt8)) := ⟨_, rfl⟩
  have hl : leafU line n c = c ++ M ++ T ++ S := by unfold leafU; rw [hS, hT, hM]
  rw [hl] at h ⊢
  have h0 : s.drop k = c ++ (M ++ (T ++ (S ++ r))) := by rw [h]; simp
  have hSh : ∀ b ∈ (S ++ r).head?, wordB b = false ∧ b ≠ 92 ∧ b ≠ 47 := by
    intro b hb
    rw [hS] at hb
    have key : ∀ q : UInt8, (q = 35 ∨ q = 61 ∨ q = 33) → wordB q = false ∧ q ≠ 92 ∧ q ≠ 47 := by
      rintro q (rfl | rfl | rfl) <;> decide
    by_cases hline : line = true
    · rw [if_pos hline] at hb
      by_cases h1 : n.state = 1
      · rw [if_pos h1] at hb; simp at hb; exact key b (.inl hb.symm)
      · rw [if_neg h1] at hb
        by_cases h2 : n.state = 2
        · rw [if_pos h2] at hb; simp at hb; exact key b (.inr (.inl hb.symm))
        · rw [if_neg h2] at hb
          by_cases h3 : n.state = 3
          · rw [if_pos h3] at hb; simp at hb; exact key b (.inr (.inr hb.symm))
          · rw [if_neg h3, List.nil_append] at hb
            have := hs b hb
            exact ⟨this.1, this.2.1, this.2.2.1⟩
    · rw [if_neg hline, List.nil_append] at hb
      have := hs b hb
      exact ⟨this.1, this.2.1, this.2.2.1⟩
  have hTh : ∀ b ∈ (T ++ (S ++ r)).head?, wordB b = false ∧ b ≠ 92 := by
    intro b hb
    rw [hT] at hb
    by_cases ht : 0 < n.turn
    · rw [if_pos ht] at hb
      simp at hb
      subst hb
      decide
    · rw [if_neg ht, List.nil_append] at hb
      have := hSh b hb
      exact ⟨this.1, this.2.1⟩
  have hMh : ∀ b ∈ (M ++ (T ++ (S ++ r))).head?, wordB b = false := by
    intro b hb
    rw [hM] at hb
    by_cases hm : n.mirror = true
    · rw [if_pos hm] at hb
      simp at hb
      subst hb
      decide
    · rw [if_neg hm, List.nil_append] at hb
      exact (hTh b hb).1
  have he := code_end hn.code h0 hMh
  obtain ⟨u, w, hcu, hup, -⟩ := hn.code.head
  have hat : s[k]? = some u := by rw [at_drop, h0, hcu]; rfl
  have d1 := drop_add h0
  have hmr : sees s (k + c.length) 92 = n.mirror := by
    by_cases hm : n.mirror = true
    · rw [hm]
      rw [hM, if_pos hm] at d1
      exact sees_yes d1
    · have hm' : n.mirror = false := by simpa using hm
      rw [hm']
      rw [hM, if_neg hm, List.nil_append] at d1
      exact sees_no d1 fun b hb => (hTh b hb).2
  have d2 : s.drop (if n.mirror = true then k + c.length + 1 else k + c.length) = T ++ (S ++ r) := by
    by_cases hm : n.mirror = true
    · rw [if_pos hm]
      rw [hM, if_pos hm] at d1
      exact drop_one d1
    · rw [if_neg hm]
      rw [hM, if_neg hm, List.nil_append] at d1
      exact d1
  obtain ⟨e1, he1⟩ : ∃ e1, e1 = (if n.mirror = true then k + c.length + 1 else k + c.length) := ⟨_, rfl⟩
  rw [← he1] at d2
  have e1v : e1 = k + c.length + M.length := by rw [he1, hM]; split <;> rfl
  have htn : turnG s e1 = .ok n.turn (e1 + T.length) ∧ s.drop (e1 + T.length) = S ++ r := by
    unfold turnG
    by_cases ht : 0 < n.turn
    · rw [hT, if_pos ht] at d2 ⊢
      have d3 : s.drop e1 = 47 :: (Lib.itoa n.turn ++ (S ++ r)) := d2
      rw [if_pos (sees_yes d3)]
      have hb : ((49 : UInt8).toNat : Int) = 49 ∧ ((51 : UInt8).toNat : Int) = 51 := by decide
      obtain ⟨q1, q2⟩ := digit_back (lo := 49) (hi := 51) (drop_one d3) (by have := hn.turn; omega) (by have := hn.turn; omega)
      obtain ⟨c', e', -⟩ := digit_itoa (a := n.turn) (by have := hn.turn; omega)
      rw [q1, e']
      exact ⟨rfl, q2⟩
    · rw [hT, if_neg ht] at d2 ⊢
      have d3 : s.drop e1 = S ++ r := d2
      rw [if_neg (by rw [sees_no d3 fun b hb => (hSh b hb).2.2]; simp)]
      have h0t : n.turn = 0 := by have := hn.turn; omega
      rw [h0t]
      exact ⟨rfl, d3⟩
  have hst : (if line = true then stateOf s[e1 + T.length]? else 0) = n.state := by
    by_cases hline : line = true
    · rw [if_pos hline, at_drop, htn.2, hS, if_pos hline]
      exact state_of hn.st r fun b hb => ⟨(hs b hb).2.2.2.1, (hs b hb).2.2.2.2.1, (hs b hb).2.2.2.2.2⟩
    · rw [if_neg hline]
      exact (hn.tree (by simpa using hline)).symm
  have hSl : (if n.state = 0 then e1 + T.length else e1 + T.length + 1) = e1 + T.length + S.length := by
    have : n.state = 0 ∨ n.state = 1 ∨ n.state = 2 ∨ n.state = 3 := by have := hn.st; omega
    by_cases hline : line = true
    · rw [hS, if_pos hline]
      rcases this with e | e | e | e <;> rw [e] <;> rfl
    · have := hn.tree (by simpa using hline)
      rw [hS, if_neg hline, this]
      rfl
  unfold glyphG
  rw [hat]
  simp only
  rw [if_pos hup, he, hmr, ← he1, htn.1]
  show R.ok _ _ = _
  simp only [hst, hSl]
  congr 1
  · congr 1
    rw [h0, show k + c.length - k = c.length by omega, List.take_left]
  · rw [e1v]
    simp only [List.length_append]
    omega
theorem gap_back {k : Nat} {n : Tx.Node} {r : List UInt8} (hn : GapOk n) (h : s.drop k = gapU n ++ r) : leafG s k = .ok (.mk (gapN n.lo n.hi) [] 0 []) (k + (gapU n).length) := by
  have hg : s.drop k = 123 :: (Lib.itoa n.lo ++ (45 :: (Lib.itoa n.hi ++ (125 :: r)))) := by rw [h]; unfold gapU; simp
  have hb : ((48 : UInt8).toNat : Int) = 48 ∧ ((57 : UInt8).toNat : Int) = 57 := by decide
  have hlo := hn.lo
  have hhi := hn.hi
  obtain ⟨q1, q2⟩ := digit_back (lo := 48) (hi := 57) (drop_one hg) hn.lo (by omega)
  obtain ⟨q3, q4⟩ := digit_back (lo := 48) (hi := 57) (drop_one q2) hn.hi (by omega)
  obtain ⟨c1, e1, -⟩ := digit_itoa hn.lo
  obtain ⟨c2, e2, -⟩ := digit_itoa hn.hi
  have hlen : (gapU n).length = 5 := by unfold gapU; rw [e1, e2]; rfl
  unfold leafG
  rw [if_pos (sees_yes hg), q1]
  show ((must s (k + 1 + 1) 45).bind _) = _
  rw [must_yes q2]
  show ((digitG s 48 57 (k + 1 + 1 + 1)).bind _) = _
  rw [q3]
  show ((must s (k + 1 + 1 + 1 + 1) 125).bind _) = _
  rw [must_yes q4, hlen]
  rfl
/-- a leaf that may be written -/
def LeafG : Item → Prop
  | .mk n c _ ks => ks = [] ∧ (LeafOk true n c ∨ GapOk n)
theorem leaf_back {b : Bool} {k : Nat} {x : Item} {r : List UInt8} (hx : LeafG x) (h : s.drop k = unI b x ++ r) (hr : St 0 r) : ∃ y, leafG s k = .ok y (k + (unI b x).length) ∧ normI y = normI x := by
  obtain ⟨n, c, p, ks⟩ := x
  obtain ⟨rfl, hl | hg⟩ := hx
  · rw [un_mk, if_pos hl.kind] at h ⊢
    refine ⟨.mk (glyphN n.turn n.mirror n.state) c k [], ?_, ?_⟩
    · unfold leafG
      obtain ⟨u, w, hcu, hup, -⟩ := hl.code.head
      have hne : u ≠ 123 := by
        intro e
        subst e
        exact absurd hup (by decide)
      have h1 : s.drop k = u :: (w ++ (if n.mirror = true then [92] else []) ++ (if 0 < n.turn then 47 :: Lib.itoa n.turn else []) ++ (if n.state = 1 then [35] else if n.state = 2 then [61] else if n.state = 3 then [33] else []) ++ r) := by
        rw [h, hcu]
        unfold leafU
        simp
      rw [if_neg (by rw [sees_no h1 (by intro b hb; simp at hb; rw [← hb]; exact hne)]; simp)]
      exact glyph_back hl h hr
    · rw [normI, normI]
      have h1 := hl.kind
      have h2 := hl.rest
      obtain ⟨kd, dp, sg, tn, mr, st, lo, hi⟩ := n
      simp only at h1 h2
      subst h1
      obtain ⟨rfl, rfl⟩ := h2
      rfl
  · have h6 : ¬ n.kind = 1 := by rw [hg.kind]; decide
    rw [un_mk, if_neg h6, if_pos hg.kind] at h ⊢
    refine ⟨_, gap_back hg h, ?_⟩
    rw [normI, normI]
    have h1 := hg.kind
    have h2 := hg.rest
    obtain ⟨kd, dp, sg, tn, mr, st, lo, hi⟩ := n
    simp only at h1 h2
    subst h1
    obtain ⟨rfl, rfl, rfl, rfl⟩ := h2
    rfl
theorem St.up {n m : Nat} {r : List UInt8} (h : St n r) (hs : ∀ c ∈ stops n, c ∈ stops m) : St m r := fun c hc => hs c (h c hc)
theorem St.cons {n : Nat} {c : UInt8} {r : List UInt8} (h : c ∈ stops n) : St n (c :: r) := fun b hb => by
  simp at hb
  subst hb
  exact h
theorem St.ne {n : Nat} {r : List UInt8} {q : UInt8} (h : St n r) (hq : q ∉ stops n) : ∀ b ∈ r.head?, b ≠ q := fun b hb e => by
  subst e
  exact hq (h b hb)
/-- things with a byte between them are read back -/
theorem sep_back {p : Nat → R Item} {c : UInt8} {b : Bool} {m : Nat} (hcm : c ∈ stops m) : ∀ (xs : List Item), xs ≠ [] → (∀ x ∈ xs, ∀ (k : Nat) (r : List UInt8), s.drop k = unI b x ++ r → St m r → ∃ y, p k = .ok y (k + (unI b x).length) ∧ normI y = normI x) →
    ∀ (n k : Nat) (r : List UInt8), xs.length ≤ n → s.drop k = unL c b xs ++ r → St m r → (∀ q ∈ r.head?, q ≠ c) → ∃ ys, sepG s p c n k = .ok ys (k + (unL c b xs).length) ∧ normL ys = normL xs ∧ s.drop (k + (unL c b xs).length) = r
  | [], h, _ => absurd rfl h
  | [x], _, hp => by
    intro n k r hn h hr hq
    have e : unL c b [x] = unI b x := by rw [un_two, un_none, List.append_nil]
    rw [e] at h ⊢
    obtain ⟨y, h1, h2⟩ := hp x (by simp) k r h hr
    obtain ⟨n, rfl⟩ : ∃ m, n = m + 1 := ⟨n - 1, by simp at hn; omega⟩
    refine ⟨[y], ?_, by simp only [normL, h2], drop_add h⟩
    unfold sepG
    rw [h1]
    show (if sees s (k + (unI b x).length) c = true then _ else _) = _
    rw [if_neg (by rw [sees_no (drop_add h) hq]; simp)]
  | x :: z :: xs, _, hp => by
    intro n k r hn h hr hq
    have e : unL c b (x :: z :: xs) = unI b x ++ (c :: unL c b (z :: xs)) := by rw [un_two, un_more, un_two]
    rw [e] at h ⊢
    have h0 : s.drop k = unI b x ++ (c :: (unL c b (z :: xs) ++ r)) := by rw [h]; simp
    obtain ⟨y, h1, h2⟩ := hp x (by simp) k _ h0 (St.cons hcm)
    obtain ⟨n, rfl⟩ : ∃ m, n = m + 1 := ⟨n - 1, by simp at hn; omega⟩
    have hd := drop_add h0
    obtain ⟨ys, i1, i2, i3⟩ := sep_back hcm (z :: xs) (by simp) (fun x hx => hp x (by simp [hx])) n (k + (unI b x).length + 1) r (by simp at hn ⊢; omega) (drop_one hd) hr hq
    have hlen : k + (unI b x ++ c :: unL c b (z :: xs)).length = k + (unI b x).length + 1 + (unL c b (z :: xs)).length := by simp only [List.length_append, List.length_cons]; omega
    refine ⟨y :: ys, ?_, by rw [normL, normL, h2, i2], by rw [hlen]; exact i3⟩
    unfold sepG
    rw [h1]
    show (if sees s (k + (unI b x).length) c = true then _ else _) = _
    rw [if_pos (sees_yes hd), i1, hlen]
    rfl
mutual
/-- an item that may be written in the line code -/
def Good : Item → Prop
  | .mk n c _ ks => (n.kind = 1 ∧ LeafOk true n c ∧ ks = []) ∨ (n.kind = 6 ∧ GapOk n ∧ ks = []) ∨
    ((n.kind = 2 ∨ n.kind = 3 ∨ n.kind = 4 ∨ n.kind = 5 ∨ n.kind = 7) ∧ (n.sign = 0 ∧ n.turn = 0 ∧ n.mirror = false ∧ n.state = 0 ∧ n.lo = 0 ∧ n.hi = 0) ∧ GoodL ks ∧
      (n.kind = 4 → ks.length = 2 ∧ ∀ x ∈ ks, x.node.kind = 1) ∧ (n.kind = 2 → 2 ≤ ks.length ∧ ∀ x ∈ ks, x.node.kind ≠ 2 ∧ x.node.kind ≠ 5 ∧ x.node.kind ≠ 7) ∧
      (n.kind = 3 → 2 ≤ ks.length ∧ ∀ x ∈ ks, x.node.kind ≠ 3 ∧ x.node.kind ≠ 5 ∧ x.node.kind ≠ 7) ∧ (n.kind = 5 → ks ≠ [] ∧ ∀ x ∈ ks, x.node.kind ≠ 5) ∧ (n.kind = 7 → ks ≠ [] ∧ ∀ x ∈ ks, x.node.kind ≠ 5 ∧ x.node.kind ≠ 7))
def GoodL : List Item → Prop
  | [] => True
  | x :: xs => Good x ∧ GoodL xs
end
theorem goodL_mem : ∀ {xs : List Item}, GoodL xs → ∀ x ∈ xs, Good x
  | [], _, x, h => by cases h
  | y :: ys, h, x, hx => by
    rw [GoodL] at h
    rcases List.mem_cons.1 hx with rfl | hx
    · exact h.1
    · exact goodL_mem h.2 x hx
theorem size_mem : ∀ {xs : List Item} {x : Item}, x ∈ xs → sizeI x ≤ sizeL xs
  | [], x, h => by cases h
  | y :: ys, x, hx => by
    rw [sizeL]
    rcases List.mem_cons.1 hx with rfl | hx
    · omega
    · have := size_mem hx
      omega
theorem good_leaf {x : Item} (h : Good x) (hk : x.node.kind = 1 ∨ x.node.kind = 6) : LeafG x := by
  obtain ⟨n, c, p, ks⟩ := x
  rw [Good] at h
  have hk' : n.kind = 1 ∨ n.kind = 6 := hk
  rcases h with ⟨-, h1, h2⟩ | ⟨-, h1, h2⟩ | ⟨h1, -⟩
  · exact ⟨h2, .inl h1⟩
  · exact ⟨h2, .inr h1⟩
  · omega
theorem norm_node {n : Tx.Node} {c : List UInt8} {p : Nat} {ks ys : List Item} (hk : n.kind = 2 ∨ n.kind = 3 ∨ n.kind = 4 ∨ n.kind = 5 ∨ n.kind = 7) (hz : n.sign = 0 ∧ n.turn = 0 ∧ n.mirror = false ∧ n.state = 0 ∧ n.lo = 0 ∧ n.hi = 0) (h : normL ys = normL ks) : normI (.mk (kindN n.kind) [] 0 ys) = normI (.mk n c p ks) := by
  rw [normI, normI, h]
  obtain ⟨kd, dp, sg, tn, mr, st, lo, hi⟩ := n
  simp only at hk hz
  obtain ⟨rfl, rfl, rfl, rfl, rfl, rfl⟩ := hz
  have h1 : ¬ kd = 1 := by omega
  simp only [kindN, h1, if_false]
theorem one_two (k : Int) (x y : Item) (ys : List Item) : one k (x :: y :: ys) = .mk (kindN k) [] 0 (x :: y :: ys) := rfl
theorem leaf_first {b : Bool} {x : Item} (h : LeafG x) : ∃ u w, unI b x = u :: w ∧ u ≠ 40 ∧ u ≠ 91 ∧ u ≠ 60 := by
  obtain ⟨n, c, p, ks⟩ := x
  obtain ⟨-, hl | hg⟩ := h
  · obtain ⟨u, w, hcu, hup, -⟩ := hl.code.head
    rw [un_mk, if_pos hl.kind]
    refine ⟨u, w ++ (if n.mirror = true then [92] else []) ++ (if 0 < n.turn then 47 :: Lib.itoa n.turn else []) ++ (if n.state = 1 then [35] else if n.state = 2 then [61] else if n.state = 3 then [33] else []), ?_, ?_⟩
    · unfold leafU
      rw [hcu]
      simp
    · refine ⟨fun e => ?_, fun e => ?_, fun e => ?_⟩ <;> (subst e; exact absurd hup (by decide))
  · rw [un_mk, if_neg (by rw [hg.kind]; decide), if_pos hg.kind]
    exact ⟨123, _, rfl, by decide, by decide, by decide⟩
theorem good_inner {n : Tx.Node} {c : List UInt8} {p : Nat} {ks : List Item} (h : Good (.mk n c p ks)) (hk : n.kind ≠ 1 ∧ n.kind ≠ 6) : (n.kind = 2 ∨ n.kind = 3 ∨ n.kind = 4 ∨ n.kind = 5 ∨ n.kind = 7) ∧ (n.sign = 0 ∧ n.turn = 0 ∧ n.mirror = false ∧ n.state = 0 ∧ n.lo = 0 ∧ n.hi = 0) ∧ GoodL ks ∧
      (n.kind = 4 → ks.length = 2 ∧ ∀ x ∈ ks, x.node.kind = 1) ∧ (n.kind = 2 → 2 ≤ ks.length ∧ ∀ x ∈ ks, x.node.kind ≠ 2 ∧ x.node.kind ≠ 5 ∧ x.node.kind ≠ 7) ∧
      (n.kind = 3 → 2 ≤ ks.length ∧ ∀ x ∈ ks, x.node.kind ≠ 3 ∧ x.node.kind ≠ 5 ∧ x.node.kind ≠ 7) ∧ (n.kind = 5 → ks ≠ [] ∧ ∀ x ∈ ks, x.node.kind ≠ 5) ∧ (n.kind = 7 → ks ≠ [] ∧ ∀ x ∈ ks, x.node.kind ≠ 5 ∧ x.node.kind ≠ 7) := by
  rw [Good] at h
  rcases h with ⟨h, -⟩ | ⟨h, -⟩ | ⟨h1, h2, h3⟩
  · exact absurd h hk.1
  · exact absurd h hk.2
  · exact ⟨h1, h2, h3⟩
theorem good_kind {x : Item} (h : Good x) : x.node.kind = 1 ∨ x.node.kind = 2 ∨ x.node.kind = 3 ∨ x.node.kind = 4 ∨ x.node.kind = 5 ∨ x.node.kind = 6 ∨ x.node.kind = 7 := by
  obtain ⟨n, c, p, ks⟩ := x
  rw [Good] at h
  show n.kind = 1 ∨ n.kind = 2 ∨ n.kind = 3 ∨ n.kind = 4 ∨ n.kind = 5 ∨ n.kind = 6 ∨ n.kind = 7
  rcases h with ⟨h, -⟩ | ⟨h, -⟩ | ⟨h, -⟩ <;> omega
theorem len_kids (c : UInt8) (b : Bool) : ∀ xs : List Item, xs.length ≤ (unL c b xs).length + 1
  | [] => Nat.zero_le _
  | [x] => by simp
  | x :: y :: xs => by
    have ih := len_kids c b (y :: xs)
    rw [un_two, un_more, List.length_append, List.length_cons]
    rw [un_two] at ih
    simp only [List.length_cons] at ih ⊢
    omega
theorem drop_len {k : Nat} {u r : List UInt8} (h : s.drop k = u ++ r) : u.length ≤ s.length := by
  have := congrArg List.length h
  rw [List.length_drop, List.length_append] at this
  omega
mutual
theorem size_un : ∀ (x : Item) (b : Bool), Good x → sizeI x ≤ (unI b x).length
  | .mk n c p ks, b, h => by
    by_cases hk : n.kind ≠ 1 ∧ n.kind ≠ 6
    · obtain ⟨h1, h2, h3, h4, h5, h6, h7, h8⟩ := good_inner h hk
      have hu := size_unL ks (betw n.kind) (decide (n.kind = 2)) h3
      rw [un_mk, if_neg hk.1, if_neg hk.2, sizeI, List.length_append, List.length_append]
      rcases h1 with e | e | e | e | e
      · have := (h5 e).1; omega
      · have := (h6 e).1; omega
      · have := (h4 e).1; omega
      · have hn := List.length_pos_iff.2 (h7 e).1
        have : (openU b n.kind).length = 1 := by unfold openU; rw [e]; rfl
        omega
      · have hn := List.length_pos_iff.2 (h8 e).1
        have : (openU b n.kind).length = 1 := by unfold openU; rw [e]; rfl
        omega
    · have hk' : n.kind = 1 ∨ n.kind = 6 := by omega
      have hl := good_leaf h hk'
      obtain ⟨u, w, e, -⟩ := leaf_first (b := b) hl
      have hks : ks = [] := hl.1
      rw [e, sizeI, hks, sizeL]
      simp
theorem size_unL : ∀ (xs : List Item) (c : UInt8) (b : Bool), GoodL xs → sizeL xs + xs.length ≤ (unL c b xs).length + 1
  | [], _, _, _ => by rw [sizeL]; exact Nat.zero_le _
  | [x], c, b, h => by
    rw [GoodL] at h
    have := size_un x b h.1
    rw [un_two, un_none, List.append_nil, sizeL, sizeL]
    simp
    omega
  | x :: y :: xs, c, b, h => by
    rw [GoodL] at h
    have h1 := size_un x b h.1
    have h2 := size_unL (y :: xs) c b h.2
    rw [un_two, un_more, sizeL, List.length_append, List.length_cons]
    rw [un_two] at h2
    simp only [List.length_cons] at h2 ⊢
    omega
end
/-- what the reader of a pair promises -/
def OvB (s : List UInt8) (ov : Nat → R (Item × Bool)) (f : Nat) : Prop := ∀ x, Good x → (x.node.kind = 1 ∨ x.node.kind = 6 ∨ x.node.kind = 4 ∨ x.node.kind = 3) → sizeI x ≤ f → ∀ (k : Nat) (r : List UInt8), s.drop k = unI true x ++ r → St 1 r → ∃ y, ov k = .ok (y, decide (x.node.kind = 3)) (k + (unI true x).length) ∧ normI y = normI x
theorem two_of {ks : List Item} (h : 2 ≤ ks.length) : ∃ x y zs, ks = x :: y :: zs := by
  match ks, h with
  | x :: y :: zs, _ => exact ⟨x, y, zs, rfl⟩
theorem s12 : ∀ c ∈ stops 2, c ∈ stops 1 := by decide
theorem s32 : ∀ c ∈ stops 3, c ∈ stops 2 := by decide
theorem s10 : ∀ c ∈ stops 1, c ∈ stops 0 := by decide
theorem beside_back {ov : Nat → R (Item × Bool)} {f : Nat} (hov : OvB s ov f) {x : Item} (hx : Good x) (hk : x.node.kind = 1 ∨ x.node.kind = 6 ∨ x.node.kind = 4 ∨ x.node.kind = 2) (hf : sizeI x ≤ f) {k : Nat} {r : List UInt8} (h : s.drop k = unI false x ++ r) (hr : St 2 r) : ∃ y, besideG s ov k = .ok y (k + (unI false x).length) ∧ normI y = normI x := by
  by_cases h2 : x.node.kind = 2
  · obtain ⟨n, c, p, ks⟩ := x
    have e2 : n.kind = 2 := h2
    obtain ⟨h1, hz, h3, -, h5, -⟩ := good_inner hx (by omega)
    obtain ⟨hl, hks⟩ := h5 e2
    obtain ⟨x1, x2, xs, rfl⟩ := two_of hl
    have hg := goodL_mem h3
    rw [sizeI] at hf
    have hsz : ∀ x ∈ x1 :: x2 :: xs, sizeI x ≤ f := fun x hx => by have := size_mem hx; omega
    have hkid : ∀ x ∈ x1 :: x2 :: xs, x.node.kind = 1 ∨ x.node.kind = 6 ∨ x.node.kind = 4 ∨ x.node.kind = 3 := fun x hx => by
      have a := good_kind (hg x hx)
      have b := hks x hx
      omega
    have eu : unI false (.mk n c p (x1 :: x2 :: xs)) = unI true x1 ++ (42 :: unL 42 true (x2 :: xs)) := by
      rw [un_mk, e2, un_two, un_more, un_two]
      simp [openU, shutU, betw]
    rw [eu] at h ⊢
    have h0 : s.drop k = unI true x1 ++ (42 :: (unL 42 true (x2 :: xs) ++ r)) := by rw [h]; simp
    obtain ⟨y1, o1, o2⟩ := hov x1 (hg x1 (by simp)) (hkid x1 (by simp)) (hsz x1 (by simp)) k _ h0 (St.cons (by decide))
    have hd := drop_add h0
    have hd1 := drop_one hd
    obtain ⟨ys, i1, i2, -⟩ := sep_back (s := s) (p := fun j => (ov j).bind fun y j1 => .ok y.1 j1) (c := 42) (b := true) (m := 1) (by decide) (x2 :: xs) (by simp) (fun x hx k r hh hr' => by
      obtain ⟨y, q1, q2⟩ := hov x (hg x (by simp [hx])) (hkid x (by simp [hx])) (hsz x (by simp [hx])) k r hh hr'
      exact ⟨y, by rw [q1]; rfl, q2⟩) (N s) (k + (unI true x1).length + 1) r (by have a := len_kids 42 true (x2 :: xs); have b := drop_len hd1; unfold N; omega) hd1 (hr.up s12) (hr.ne (by decide))
    have hlen : k + (unI true x1 ++ 42 :: unL 42 true (x2 :: xs)).length = k + (unI true x1).length + 1 + (unL 42 true (x2 :: xs)).length := by simp only [List.length_append, List.length_cons]; omega
    refine ⟨one 2 (y1 :: ys), ?_, ?_⟩
    · unfold besideG
      rw [o1]
      show (if _ ∧ sees s (k + (unI true x1).length) 42 = false then _ else _) = _
      rw [if_neg (by rw [sees_yes hd]; simp), if_pos (sees_yes hd), i1, hlen]
      rfl
    · have hy : ys ≠ [] := by
        intro e
        rw [e] at i2
        simp only [normL] at i2
        exact absurd i2 (by simp)
      obtain ⟨y2, yt, rfl⟩ := List.exists_cons_of_ne_nil hy
      rw [one_two, ← e2]
      exact norm_node h1 hz (by rw [normL, o2, i2, ← normL])
  · have hk' : x.node.kind = 1 ∨ x.node.kind = 6 ∨ x.node.kind = 4 ∨ x.node.kind = 3 := by omega
    have h3 : x.node.kind ≠ 3 := by omega
    have e : unI false x = unI true x := un_flat h3 _ _
    rw [e] at h ⊢
    obtain ⟨y, o1, o2⟩ := hov x hx hk' hf k r h (hr.up s12)
    refine ⟨y, ?_, o2⟩
    unfold besideG
    rw [o1, decide_eq_false h3]
    have hn : sees s (k + (unI true x).length) 42 = false := sees_no (drop_add h) (hr.ne (by decide))
    simp [R.bind, hn]
theorem above_back {ov : Nat → R (Item × Bool)} {f : Nat} (hov : OvB s ov f) {w : Bool} {x : Item} (hx : Good x) (hk : x.node.kind = 3 ∨ (w = false ∧ (x.node.kind = 1 ∨ x.node.kind = 6 ∨ x.node.kind = 4 ∨ x.node.kind = 2))) (hf : sizeI x ≤ f + 1) (hf2 : x.node.kind ≠ 3 → sizeI x ≤ f) {k : Nat} {r : List UInt8} (h : s.drop k = unI false x ++ r) (hr : St 3 r) : ∃ y, aboveG s ov w k = .ok y (k + (unI false x).length) ∧ normI y = normI x := by
  by_cases h3 : x.node.kind = 3
  · obtain ⟨n, c, p, ks⟩ := x
    have e3 : n.kind = 3 := h3
    obtain ⟨h1, hz, hgl, -, -, h6, -⟩ := good_inner hx (by omega)
    obtain ⟨hl, hks⟩ := h6 e3
    obtain ⟨x1, x2, xs, rfl⟩ := two_of hl
    have hg := goodL_mem hgl
    rw [sizeI] at hf
    have hsz : ∀ x ∈ x1 :: x2 :: xs, sizeI x ≤ f := fun x hx => by have := size_mem hx; omega
    have hkid : ∀ x ∈ x1 :: x2 :: xs, x.node.kind = 1 ∨ x.node.kind = 6 ∨ x.node.kind = 4 ∨ x.node.kind = 2 := fun x hx => by
      have a := good_kind (hg x hx)
      have b := hks x hx
      omega
    have eu : unI false (.mk n c p (x1 :: x2 :: xs)) = unI false x1 ++ (58 :: unL 58 false (x2 :: xs)) := by
      rw [un_mk, e3, un_two, un_more, un_two]
      simp [openU, shutU, betw]
    rw [eu] at h ⊢
    have h0 : s.drop k = unI false x1 ++ (58 :: (unL 58 false (x2 :: xs) ++ r)) := by rw [h]; simp
    obtain ⟨y1, o1, o2⟩ := beside_back hov (hg x1 (by simp)) (hkid x1 (by simp)) (hsz x1 (by simp)) h0 (St.cons (by decide))
    have hd := drop_add h0
    have hd1 := drop_one hd
    obtain ⟨ys, i1, i2, -⟩ := sep_back (s := s) (p := besideG s ov) (c := 58) (b := false) (m := 2) (by decide) (x2 :: xs) (by simp) (fun x hx k r hh hr' => beside_back hov (hg x (by simp [hx])) (hkid x (by simp [hx])) (hsz x (by simp [hx])) hh hr') (N s) (k + (unI false x1).length + 1) r (by have a := len_kids 58 false (x2 :: xs); have b := drop_len hd1; unfold N; omega) hd1 (hr.up s32) (hr.ne (by decide))
    have hlen : k + (unI false x1 ++ 58 :: unL 58 false (x2 :: xs)).length = k + (unI false x1).length + 1 + (unL 58 false (x2 :: xs)).length := by simp only [List.length_append, List.length_cons]; omega
    refine ⟨one 3 (y1 :: ys), ?_, ?_⟩
    · unfold aboveG
      rw [o1]
      show (if _ ∧ sees s (k + (unI false x1).length) 58 = false then _ else _) = _
      rw [if_neg (by rw [sees_yes hd]; simp), if_pos (sees_yes hd), i1, hlen]
      rfl
    · have hy : ys ≠ [] := by
        intro e
        rw [e] at i2
        simp only [normL] at i2
        exact absurd i2 (by simp)
      obtain ⟨y2, yt, rfl⟩ := List.exists_cons_of_ne_nil hy
      rw [one_two, ← e3]
      exact norm_node h1 hz (by rw [normL, o2, i2, ← normL])
  · rcases hk with hk | ⟨rfl, hk⟩
    · exact absurd hk h3
    · obtain ⟨y, o1, o2⟩ := beside_back hov hx hk (hf2 h3) h (hr.up s32)
      refine ⟨y, ?_, o2⟩
      unfold aboveG
      rw [o1]
      have hn : sees s (k + (unI false x).length) 58 = false := sees_no (drop_add h) (hr.ne (by decide))
      simp [R.bind, hn]
theorem over_back : ∀ f : Nat, OvB s (overG s f) f := by
  intro f
  induction f with
  | zero =>
    intro x hx _ hf
    obtain ⟨n, c, p, ks⟩ := x
    rw [sizeI] at hf
    omega
  | succ f ih =>
    intro x hx hk hf k r h hr
    by_cases h3 : x.node.kind = 3
    · have eu : unI true x = 40 :: (unI false x ++ [41]) := by
        obtain ⟨n, c, p, ks⟩ := x
        have e3 : n.kind = 3 := h3
        rw [un_mk, un_mk, e3]
        simp [openU, shutU]
      rw [eu] at h ⊢
      have h0 : s.drop k = 40 :: (unI false x ++ (41 :: r)) := by rw [h]; simp
      obtain ⟨y, o1, o2⟩ := above_back ih (w := true) hx (.inl h3) hf (fun e => absurd h3 e) (drop_one h0) (St.cons (by decide))
      have hd := drop_add (drop_one h0)
      refine ⟨y, ?_, o2⟩
      unfold overG
      rw [if_pos (sees_yes h0), o1]
      show ((must s (k + 1 + (unI false x).length) 41).bind _) = _
      rw [must_yes hd, decide_eq_true h3]
      have : k + (40 :: (unI false x ++ [41])).length = k + 1 + (unI false x).length + 1 := by simp only [List.length_cons, List.length_append, List.length_nil]; omega
      rw [this]
      rfl
    · by_cases h4 : x.node.kind = 4
      · obtain ⟨n, c, p, ks⟩ := x
        have e4 : n.kind = 4 := h4
        obtain ⟨h1, hz, hgl, h5, -⟩ := good_inner hx (by omega)
        obtain ⟨hl, hks⟩ := h5 e4
        obtain ⟨x1, x2, xs, rfl⟩ := two_of (by omega : 2 ≤ ks.length)
        have hxs : xs = [] := by
          cases xs with
          | nil => rfl
          | cons z zs => simp at hl
        subst hxs
        have hg := goodL_mem hgl
        have l1 := good_leaf (hg x1 (by simp)) (.inl (hks x1 (by simp)))
        have l2 := good_leaf (hg x2 (by simp)) (.inl (hks x2 (by simp)))
        have eu : unI true (.mk n c p [x1, x2]) = unI false x1 ++ (38 :: unI false x2) := by
          rw [un_mk, e4, un_two, un_more, un_none]
          simp [openU, shutU, betw]
        rw [eu] at h ⊢
        have h0 : s.drop k = unI false x1 ++ (38 :: (unI false x2 ++ r)) := by rw [h]; simp
        obtain ⟨y1, a1, a2⟩ := leaf_back l1 h0 (St.cons (by decide))
        have hd := drop_add h0
        obtain ⟨y2, b1, b2⟩ := leaf_back l2 (drop_one hd) (hr.up s10)
        obtain ⟨u, wv, e, n40, -⟩ := leaf_first (b := false) l1
        refine ⟨.mk (kindN 4) [] 0 [y1, y2], ?_, ?_⟩
        · unfold overG
          rw [if_neg (by rw [sees_no h0 (by rw [e]; intro q hq; simp at hq; rw [← hq]; exact n40)]; simp), a1]
          show (if sees s (k + (unI false x1).length) 38 = true then _ else _) = _
          rw [if_pos (sees_yes hd), b1]
          have : k + (unI false x1 ++ 38 :: unI false x2).length = k + (unI false x1).length + 1 + (unI false x2).length := by simp only [List.length_append, List.length_cons]; omega
          rw [this, decide_eq_false (show ¬ (Item.mk n c p [x1, x2]).node.kind = 3 from h3)]
          rfl
        · rw [← e4]
          exact norm_node h1 hz (by simp only [normL, a2, b2])
      · have hl := good_leaf hx (by omega)
        obtain ⟨y, a1, a2⟩ := leaf_back hl h (hr.up s10)
        obtain ⟨u, wv, e, n40, -⟩ := leaf_first (b := true) hl
        refine ⟨y, ?_, a2⟩
        unfold overG
        rw [if_neg (by rw [sees_no h (by rw [e]; intro q hq; simp at hq; rw [← hq]; exact n40)]; simp), a1]
        show (if sees s (k + (unI true x).length) 38 = true then _ else _) = _
        rw [if_neg (by rw [sees_no (drop_add h) (hr.ne (by decide))]; simp), decide_eq_false h3]
end
end Cd
