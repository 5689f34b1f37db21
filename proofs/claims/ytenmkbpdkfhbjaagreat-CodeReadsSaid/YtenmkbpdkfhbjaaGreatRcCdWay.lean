/- What is read is what is written: plain law of the two codes. -/
import Derived.Test.YtenmkbpdkfhbjaaGreatRcCdGram
import Derived.Test.YtenmkbpdkfhbjaaGreatRcFmtPlain
namespace Cd
open Go
def leafU (line : Bool) (n : Tx.Node) (c : List UInt8) : List UInt8 :=
 c ++ (if n.mirror = true then [92] else []) ++ (if 0 < n.turn then 47 :: Lib.itoa n.turn else []) ++ (if line = true then (if n.state = 1 then [35] else if n.state = 2 then [61] else if n.state = 3 then [33] else []) else [])
def gapU (n : Tx.Node) : List UInt8 := 123 :: (Lib.itoa n.lo ++ 45 :: (Lib.itoa n.hi ++ [125]))
def betw (k : Int) : UInt8 := if k = 4 then 38 else if k = 2 then 42 else if k = 3 then 58 else if k = 5 then 45 else 59
def openU (inB : Bool) (k : Int) : List UInt8 := if k = 3 then (if inB = true then [40] else []) else if k = 5 then [60] else if k = 7 then [91] else []
def shutU (inB : Bool) (k : Int) : List UInt8 := if k = 3 then (if inB = true then [41] else []) else if k = 5 then [62] else if k = 7 then [93] else []
mutual
def unI (inB : Bool) : Item → List UInt8
 | .mk n c _ ks => if n.kind = 1 then leafU true n c else if n.kind = 6 then gapU n else openU inB n.kind ++ (unL (betw n.kind) (decide (n.kind = 2)) ks ++ shutU inB n.kind)
def unL (c : UInt8) (inB : Bool) : List Item → List UInt8
 | [] => []
 | x :: xs => unI inB x ++ unR c inB xs
def unR (c : UInt8) (inB : Bool) : List Item → List UInt8
 | [] => []
 | x :: xs => c :: (unI inB x ++ unR c inB xs)
end
mutual
def utI : Item → List UInt8
 | .mk n c _ ks => if n.kind = 1 then leafU false n c else if n.kind = 6 then List.replicate n.hi.toNat 63 else 40 :: (wordOf n.kind ++ 32 :: (utL ks ++ [41]))
def utL : List Item → List UInt8
 | [] => []
 | x :: xs => utI x ++ utR xs
def utR : List Item → List UInt8
 | [] => []
 | x :: xs => 32 :: (utI x ++ utR xs)
end
section
variable {s : List UInt8}
def Rd (s : List UInt8) (k : Nat) (u : List UInt8) (k' : Nat) : Prop := s.drop k = u ++ s.drop k'
theorem Rd.nil (k : Nat) : Rd s k [] k := rfl
theorem Rd.trans {k k1 k2 : Nat} {u v : List UInt8} (h : Rd s k u k1) (h' : Rd s k1 v k2) : Rd s k (u ++ v) k2 := by
 unfold Rd at h h' ⊢
 rw [h, h', List.append_assoc]
theorem rd_sees {k : Nat} {c : UInt8} (h : sees s k c = true) : Rd s k [c] (k + 1) := by
 unfold sees at h
 have h1 : s[k]? = some c := by simpa using h
 obtain ⟨hk, e⟩ := List.getElem?_eq_some_iff.1 h1
 unfold Rd
 rw [List.drop_eq_getElem_cons hk, e]
 rfl
theorem rd_must {k k' : Nat} {c : UInt8} {u : Unit} (h : must s k c = .ok u k') : Rd s k [c] k' := by
 unfold must at h
 split at h
 ·rename_i hs
  injection h with _ e
  subst e
  exact rd_sees hs
 ·cases h
theorem bind_ok {α β : Type} {r : R α} {f : α → Nat → R β} {y : β} {k' : Nat} (h : r.bind f = .ok y k') : ∃ x k, r = .ok x k ∧ f x k = .ok y k' := by
 cases r with
 | bad k => cases h
 | ok x k => exact ⟨x, k, rfl, h⟩
theorem itoa_digit {c : UInt8} (h : 48 ≤ c ∧ c ≤ 57) : Lib.itoa ((c.toNat : Int) - 48) = [c] := by
 have h1 : 48 ≤ c.toNat := by have := UInt8.le_iff_toNat_le.1 h.1; simpa using this
 have h2 : c.toNat ≤ 57 := by have := UInt8.le_iff_toNat_le.1 h.2; simpa using this
 unfold Lib.itoa
 rw [if_neg (by omega), Lib.decDigits_one (by omega)]
 congr 1
 refine UInt8.toNat_inj.1 ?_
 simp
 omega
theorem rd_digit {lo hi : UInt8} {k k' : Nat} {a : Int} (hlo : 48 ≤ lo) (hhi : hi ≤ 57) (h : digitG s lo hi k = .ok a k') : Rd s k (Lib.itoa a) k' ∧ (lo.toNat : Int) - 48 ≤ a ∧ a ≤ (hi.toNat : Int) - 48 := by
 unfold digitG at h
 cases hc : s[k]? with
 | none => rw [hc] at h; cases h
 | some c =>
  rw [hc] at h
  simp only at h
  split at h
  ·rename_i hb
   injection h with e1 e2
   subst e1; subst e2
   refine ⟨?_, ?_, ?_⟩
   ·rw [itoa_digit ⟨UInt8.le_trans hlo hb.1, UInt8.le_trans hb.2 hhi⟩]
    exact rd_sees (by unfold sees; simp [hc])
   ·have := UInt8.le_iff_toNat_le.1 hb.1
    omega
   ·have := UInt8.le_iff_toNat_le.1 hb.2
    omega
  ·cases h
theorem rd_run (k n : Nat) : Rd s k ((s.drop k).take n) (k + n) := by
 unfold Rd
 have := List.take_append_drop n (s.drop k)
 rw [List.drop_drop] at this
 exact this.symm
theorem code_bound {k : Nat} (h : k < s.length) : k < codeEnd s k ∧ codeEnd s k ≤ s.length := by
 have h1 := Tx.tw_le wordB ((s.drop (k + 1)).take 7)
 rw [List.length_take, List.length_drop] at h1
 unfold codeEnd
 omega
theorem state_rd {o : Option UInt8} {k : Nat} (ho : s[k]? = o) : Rd s k (if stateOf o = 1 then [35] else if stateOf o = 2 then [61] else if stateOf o = 3 then [33] else []) (if stateOf o = 0 then k else k + 1) := by
 subst ho
 unfold stateOf
 by_cases h1 : s[k]? = some 35
 ·rw [if_pos h1]
  exact rd_sees (by unfold sees; simp [h1])
 ·rw [if_neg h1]
  by_cases h2 : s[k]? = some 61
  ·rw [if_pos h2]
   exact rd_sees (by unfold sees; simp [h2])
  ·rw [if_neg h2]
   by_cases h3 : s[k]? = some 33
   ·rw [if_pos h3]
    exact rd_sees (by unfold sees; simp [h3])
   ·rw [if_neg h3]
    exact Rd.nil k
theorem rd_turn {k k' : Nat} {t : Int} (ht : turnG s k = .ok t k') : Rd s k (if 0 < t then 47 :: Lib.itoa t else []) k' := by
 unfold turnG at ht
 split at ht
 ·rename_i hs
  obtain ⟨d1, d2, -⟩ := rd_digit (by decide) (by decide) ht
  have h0 : 0 < t := by
   have e : ((49 : UInt8).toNat : Int) - 48 = 1 := by decide
   omega
  rw [if_pos h0]
  exact (rd_sees hs).trans d1
 ·injection ht with e5 e6
  subst e5; subst e6
  exact Rd.nil _
theorem un_mk (b : Bool) (n : Tx.Node) (c : List UInt8) (p : Nat) (ks : List Item) : unI b (.mk n c p ks) = if n.kind = 1 then leafU true n c else if n.kind = 6 then gapU n else openU b n.kind ++ (unL (betw n.kind) (decide (n.kind = 2)) ks ++ shutU b n.kind) := by rw [unI]
theorem un_two (c : UInt8) (b : Bool) (x : Item) (xs : List Item) : unL c b (x :: xs) = unI b x ++ unR c b xs := by rw [unL]
theorem un_more (c : UInt8) (b : Bool) (x : Item) (xs : List Item) : unR c b (x :: xs) = c :: (unI b x ++ unR c b xs) := by rw [unR]
theorem un_none (c : UInt8) (b : Bool) : unR c b [] = [] := by rw [unR]
theorem rd_glyph {line : Bool} {k k' : Nat} {x : Item} (h : glyphG s line k = .ok x k') : x.node.kind = 1 ∧ x.kids = [] ∧ Rd s k (leafU line x.node x.code) k' := by
 unfold glyphG at h
 cases hc : s[k]? with
 | none => rw [hc] at h; cases h
 | some c =>
  rw [hc] at h
  simp only at h
  split at h
  ·have hk := (List.getElem?_eq_some_iff.1 hc).1
   obtain ⟨b1, b2⟩ := code_bound (s := s) hk
   obtain ⟨t, e2, ht, h⟩ := bind_ok h
   injection h with e3 e4
   subst e3
   refine ⟨rfl, rfl, ?_⟩
   have r1 := rd_run (s := s) k (codeEnd s k - k)
   rw [show k + (codeEnd s k - k) = codeEnd s k by omega] at r1
   have r2 : Rd s (codeEnd s k) (if sees s (codeEnd s k) 92 = true then [92] else []) (if sees s (codeEnd s k) 92 = true then codeEnd s k + 1 else codeEnd s k) := by
    split
    ·rename_i hm; exact rd_sees hm
    ·exact Rd.nil _
   have r3 : Rd s (if sees s (codeEnd s k) 92 = true then codeEnd s k + 1 else codeEnd s k) (if 0 < t then 47 :: Lib.itoa t else []) e2 := by
    exact rd_turn ht
   refine ((r1.trans r2).trans r3).trans ?_
   subst e4
   cases line
   ·simp only [Bool.false_eq_true, if_false, if_true]
    exact Rd.nil _
   ·simp only [if_true]
    exact state_rd rfl
  ·cases h
theorem rd_leaf {k k' : Nat} {x : Item} (h : leafG s k = .ok x k') (b : Bool) : (x.node.kind = 1 ∨ x.node.kind = 6) ∧ Rd s k (unI b x) k' := by
 unfold leafG at h
 split at h
 ·rename_i hs
  obtain ⟨a, k1, h1, h⟩ := bind_ok h
  obtain ⟨_, k2, h2, h⟩ := bind_ok h
  obtain ⟨c, k3, h3, h⟩ := bind_ok h
  obtain ⟨_, k4, h4, h⟩ := bind_ok h
  injection h with e1 e2
  subst e1; subst e2
  refine ⟨.inr rfl, ?_⟩
  have := (rd_sees hs).trans ((rd_digit (by decide) (by decide) h1).1.trans ((rd_must h2).trans ((rd_digit (by decide) (by decide) h3).1.trans (rd_must h4))))
  exact this
 ·obtain ⟨h1, h2, h3⟩ := rd_glyph h
  refine ⟨.inl h1, ?_⟩
  obtain ⟨n, c, p, ks⟩ := x
  unfold unI
  have h1' : n.kind = 1 := h1
  rw [if_pos h1']
  exact h3
theorem rd_sep {p : Nat → R Item} {c : UInt8} {b : Bool} {P : Item → Prop} (hp : ∀ k k' x, p k = .ok x k' → P x ∧ Rd s k (unI b x) k') : ∀ (n k k' : Nat) (xs : List Item), sepG s p c n k = .ok xs k' → xs ≠ [] ∧ (∀ x ∈ xs, P x) ∧ Rd s k (unL c b xs) k' := by
 intro n
 induction n with
 | zero => intro k k' xs h; cases h
 | succ n ih =>
  intro k k' xs h
  unfold sepG at h
  obtain ⟨x, k1, h1, h⟩ := bind_ok h
  obtain ⟨q1, q2⟩ := hp _ _ _ h1
  split at h
  ·rename_i hs
   obtain ⟨ys, k2, h2, h⟩ := bind_ok h
   injection h with e1 e2
   subst e1; subst e2
   obtain ⟨i1, i2, i3⟩ := ih _ _ _ h2
   refine ⟨by simp, fun y hy => ?_, ?_⟩
   ·rcases List.mem_cons.1 hy with rfl | hy
    ·exact q1
    ·exact i2 y hy
   ·obtain ⟨y, zs, rfl⟩ := List.exists_cons_of_ne_nil i1
    have := q2.trans ((rd_sees hs).trans i3)
    exact this
  ·injection h with e1 e2
   subst e1; subst e2
   refine ⟨by simp, fun y hy => by rw [List.mem_singleton] at hy; subst hy; exact q1, ?_⟩
   have : unL c b [x] = unI b x := by unfold unL unR; simp
   rw [this]
   exact q2
theorem un_flat {x : Item} (h : x.node.kind ≠ 3) (b b' : Bool) : unI b x = unI b' x := by
 obtain ⟨n, c, p, ks⟩ := x
 have h' : n.kind ≠ 3 := h
 unfold unI openU shutU
 rw [if_neg h', if_neg h', if_neg h', if_neg h']
theorem rd_beside {ov : Nat → R (Item × Bool)} (hov : ∀ k k' x b, ov k = .ok (x, b) k' → ((b = true ∧ x.node.kind = 3) ∨ (b = false ∧ x.node.kind ≠ 3 ∧ x.node.kind ≠ 2)) ∧ Rd s k (unI true x) k') {k k' : Nat} {x : Item} (h : besideG s ov k = .ok x k') : x.node.kind ≠ 3 ∧ Rd s k (unI false x) k' := by
 unfold besideG at h
 obtain ⟨⟨y, b⟩, k1, h1, h⟩ := bind_ok h
 obtain ⟨q1, q2⟩ := hov _ _ _ _ h1
 split at h
 ·cases h
 ·rename_i hn
  split at h
  ·rename_i hs
   obtain ⟨xs, k2, h2, h⟩ := bind_ok h
   injection h with e1 e2
   subst e1; subst e2
   obtain ⟨i1, i2, i3⟩ := rd_sep (b := true) (P := fun _ => True) (fun j j' z hz => by
    obtain ⟨⟨z', b'⟩, j1, g1, g2⟩ := bind_ok hz
    injection g2 with g3 g4
    subst g3; subst g4
    exact ⟨trivial, (hov _ _ _ _ g1).2⟩) _ _ _ _ h2
   obtain ⟨z, zs, rfl⟩ := List.exists_cons_of_ne_nil i1
   refine ⟨by show (2 : Int) ≠ 3; decide, ?_⟩
   have e : unI false (one 2 (y :: z :: zs)) = unI true y ++ ([42] ++ unL 42 true (z :: zs)) := by
    show unI false (.mk (kindN 2) [] 0 (y :: z :: zs)) = _
    rw [un_mk, un_two, un_more, un_two]
    simp [kindN, openU, shutU, betw]
   rw [e]
   exact q2.trans ((rd_sees hs).trans i3)
  ·rename_i hs
   injection h with e1 e2
   subst e1; subst e2
   rcases q1 with ⟨rfl, -⟩ | ⟨-, hk, -⟩
   ·exact absurd ⟨rfl, by simpa using hs⟩ hn
   ·exact ⟨hk, by rw [un_flat hk false true]; exact q2⟩
theorem rd_above {ov : Nat → R (Item × Bool)} (hov : ∀ k k' x b, ov k = .ok (x, b) k' → ((b = true ∧ x.node.kind = 3) ∨ (b = false ∧ x.node.kind ≠ 3 ∧ x.node.kind ≠ 2)) ∧ Rd s k (unI true x) k') {w : Bool} {k k' : Nat} {x : Item} (h : aboveG s ov w k = .ok x k') : (w = true → x.node.kind = 3) ∧ Rd s k (unI false x) k' := by
 unfold aboveG at h
 obtain ⟨y, k1, h1, h⟩ := bind_ok h
 obtain ⟨q1, q2⟩ := rd_beside hov h1
 split at h
 ·cases h
 ·rename_i hn
  split at h
  ·rename_i hs
   obtain ⟨xs, k2, h2, h⟩ := bind_ok h
   injection h with e1 e2
   subst e1; subst e2
   obtain ⟨i1, i2, i3⟩ := rd_sep (b := false) (P := fun _ => True) (fun j j' z hz => ⟨trivial, (rd_beside hov hz).2⟩) _ _ _ _ h2
   obtain ⟨z, zs, rfl⟩ := List.exists_cons_of_ne_nil i1
   refine ⟨fun _ => rfl, ?_⟩
   have e : unI false (one 3 (y :: z :: zs)) = unI false y ++ ([58] ++ unL 58 false (z :: zs)) := by
    show unI false (.mk (kindN 3) [] 0 (y :: z :: zs)) = _
    rw [un_mk, un_two, un_more, un_two]
    simp [kindN, openU, shutU, betw]
   rw [e]
   exact q2.trans ((rd_sees hs).trans i3)
  ·rename_i hs
   injection h with e1 e2
   subst e1; subst e2
   refine ⟨fun hw => absurd ⟨hw, by simpa using hs⟩ hn, q2⟩
theorem rd_over : ∀ (f k k' : Nat) (x : Item) (b : Bool), overG s f k = .ok (x, b) k' → ((b = true ∧ x.node.kind = 3) ∨ (b = false ∧ x.node.kind ≠ 3 ∧ x.node.kind ≠ 2)) ∧ Rd s k (unI true x) k' := by
 intro f
 induction f with
 | zero => intro k k' x b h; cases h
 | succ f ih =>
  intro k k' x b h
  unfold overG at h
  split at h
  ·rename_i hs
   obtain ⟨y, k1, h1, h⟩ := bind_ok h
   obtain ⟨_, k2, h2, h⟩ := bind_ok h
   injection h with e1 e2
   injection e1 with e3 e4
   subst e3; subst e4; subst e2
   obtain ⟨a1, a2⟩ := rd_above ih h1
   have hk := a1 rfl
   refine ⟨.inl ⟨rfl, hk⟩, ?_⟩
   have e : unI true y = [40] ++ (unI false y ++ [41]) := by
    obtain ⟨n, c, p, ks⟩ := y
    have hk' : n.kind = 3 := hk
    rw [un_mk, un_mk]
    simp [hk', openU, shutU]
   rw [e]
   exact (rd_sees hs).trans (a2.trans (rd_must h2))
  ·obtain ⟨y, k1, h1, h⟩ := bind_ok h
   obtain ⟨l1, l2⟩ := rd_leaf h1 true
   split at h
   ·rename_i hs
    obtain ⟨z, k2, h2, h⟩ := bind_ok h
    injection h with e1 e2
    injection e1 with e3 e4
    subst e3; subst e4; subst e2
    obtain ⟨m1, m2⟩ := rd_leaf h2 false
    refine ⟨.inr ⟨rfl, by show (4 : Int) ≠ 3; decide, by show (4 : Int) ≠ 2; decide⟩, ?_⟩
    have hy : unI true y = unI false y := un_flat (by rcases l1 with e | e <;> rw [e] <;> decide) _ _
    have e : unI true (.mk (kindN 4) [] 0 [y, z]) = unI false y ++ ([38] ++ unI false z) := by
     rw [un_mk, un_two, un_more, un_none]
     simp [kindN, openU, shutU, betw]
    rw [e, ← hy]
    exact l2.trans ((rd_sees hs).trans m2)
   ·injection h with e1 e2
    injection e1 with e3 e4
    subst e3; subst e4; subst e2
    exact ⟨.inr ⟨rfl, by rcases l1 with e | e <;> rw [e] <;> decide, by rcases l1 with e | e <;> rw [e] <;> decide⟩, l2⟩
theorem rd_part {k k' : Nat} {x : Item} (h : partG s k = .ok x k') : Rd s k (unI false x) k' := by
 unfold partG at h
 split at h
 ·rename_i hs
  obtain ⟨xs, k1, h1, h⟩ := bind_ok h
  obtain ⟨_, k2, h2, h⟩ := bind_ok h
  injection h with e1 e2
  subst e1; subst e2
  obtain ⟨i1, -, i3⟩ := rd_sep (b := false) (P := fun _ => True) (fun j j' z hz => ⟨trivial, (rd_above (rd_over _) hz).2⟩) _ _ _ _ h1
  have e : unI false (.mk (kindN 7) [] 0 xs) = [91] ++ (unL 59 false xs ++ [93]) := by
   rw [un_mk]
   simp [kindN, openU, shutU, betw]
  rw [e]
  exact (rd_sees hs).trans (i3.trans (rd_must h2))
 ·exact (rd_above (rd_over _) h).2
theorem rd_group {k k' : Nat} {x : Item} (h : groupG s k = .ok x k') : Rd s k (unI false x) k' := by
 unfold groupG at h
 split at h
 ·rename_i hs
  obtain ⟨xs, k1, h1, h⟩ := bind_ok h
  obtain ⟨_, k2, h2, h⟩ := bind_ok h
  injection h with e1 e2
  subst e1; subst e2
  obtain ⟨i1, -, i3⟩ := rd_sep (b := false) (P := fun _ => True) (fun j j' z hz => ⟨trivial, rd_part hz⟩) _ _ _ _ h1
  have e : unI false (.mk (kindN 5) [] 0 xs) = [60] ++ (unL 45 false xs ++ [62]) := by
   rw [un_mk]
   simp [kindN, openU, shutU, betw]
  rw [e]
  exact (rd_sees hs).trans (i3.trans (rd_must h2))
 ·exact rd_part h
theorem line_way {xs : List Item} {k : Nat} (h : parseG s 1 = .ok xs k) : unL 45 false xs = s := by
 unfold parseG at h
 split at h
 ·rename_i h0
  injection h with e
  subst e
  rw [h0]
  rfl
 ·simp only [if_true] at h
  obtain ⟨ys, k1, h1, h⟩ := bind_ok h
  split at h
  ·cases h
  ·rename_i hk
   injection h with e1 e2
   subst e1
   obtain ⟨-, -, i3⟩ := rd_sep (b := false) (P := fun _ => True) (fun j j' z hz => ⟨trivial, rd_group hz⟩) _ _ _ _ h1
   unfold Rd at i3
   rw [List.drop_zero, List.drop_eq_nil_of_le (by omega), List.append_nil] at i3
   exact i3.symm
theorem ut_mk (n : Tx.Node) (c : List UInt8) (p : Nat) (ks : List Item) : utI (.mk n c p ks) = if n.kind = 1 then leafU false n c else if n.kind = 6 then List.replicate n.hi.toNat 63 else 40 :: (wordOf n.kind ++ 32 :: (utL ks ++ [41])) := by rw [utI]
theorem ut_one (x : Item) : utL [x] = utI x := by rw [utL, utR, List.append_nil]
theorem ut_more (x y : Item) (xs : List Item) : utL (x :: y :: xs) = utI x ++ ([32] ++ utL (y :: xs)) := by
 rw [utL, utR, utL]
 rfl
theorem rd_sepT {p : Nat → R Item} (hp : ∀ k k' x, p k = .ok x k' → Rd s k (utI x) k') : ∀ (n k k' : Nat) (xs : List Item), sepG s p 32 n k = .ok xs k' → xs ≠ [] ∧ Rd s k (utL xs) k' := by
 intro n
 induction n with
 | zero => intro k k' xs h; cases h
 | succ n ih =>
  intro k k' xs h
  unfold sepG at h
  obtain ⟨x, k1, h1, h⟩ := bind_ok h
  have q2 := hp _ _ _ h1
  split at h
  ·rename_i hs
   obtain ⟨ys, k2, h2, h⟩ := bind_ok h
   injection h with e1 e2
   subst e1; subst e2
   obtain ⟨i1, i3⟩ := ih _ _ _ h2
   obtain ⟨y, zs, rfl⟩ := List.exists_cons_of_ne_nil i1
   refine ⟨by simp, ?_⟩
   rw [ut_more]
   exact q2.trans ((rd_sees hs).trans i3)
  ·injection h with e1 e2
   subst e1; subst e2
   exact ⟨by simp, by rw [ut_one]; exact q2⟩
theorem common_full : ∀ (l w : List UInt8), commonL l w = w.length → ∃ r, l = w ++ r
 | l, [], _ => ⟨l, rfl⟩
 | [], b :: w, h => by simp [commonL] at h
 | a :: l, b :: w, h => by
  rw [commonL] at h
  split at h
  ·rename_i e
   obtain ⟨r, hr⟩ := common_full l w (by simpa using h)
   exact ⟨r, by rw [e, hr]; rfl⟩
  ·simp at h
theorem kind_at {o : Option UInt8} (h : kindAt o ≠ 0) : kindAt o = 2 ∨ kindAt o = 3 ∨ kindAt o = 4 ∨ kindAt o = 5 ∨ kindAt o = 7 := by
 unfold kindAt at h ⊢
 by_cases h1 : o = some 98
 ·rw [if_pos h1]; omega
 ·rw [if_neg h1] at h ⊢
  by_cases h2 : o = some 97
  ·rw [if_pos h2]; omega
  ·rw [if_neg h2] at h ⊢
   by_cases h3 : o = some 111
   ·rw [if_pos h3]; omega
   ·rw [if_neg h3] at h ⊢
    by_cases h4 : o = some 114
    ·rw [if_pos h4]; omega
    ·rw [if_neg h4] at h ⊢
     by_cases h5 : o = some 104
     ·rw [if_pos h5]; omega
     ·rw [if_neg h5] at h
      exact absurd rfl h
theorem rd_word {k k' : Nat} {q : Int} (h : wordG s k = .ok q k') : (q = 2 ∨ q = 3 ∨ q = 4 ∨ q = 5 ∨ q = 7) ∧ Rd s k (wordOf q) k' := by
 unfold wordG at h
 simp only at h
 split at h
 ·cases h
 ·rename_i h0
  split at h
  ·rename_i hc
   injection h with e1 e2
   subst e1; subst e2
   refine ⟨kind_at h0, ?_⟩
   obtain ⟨r, hr⟩ := common_full _ _ hc
   unfold Rd
   rw [← List.drop_drop, hr, List.drop_left]
  ·cases h
theorem run_rep : ∀ l : List UInt8, ∃ r, l = List.replicate ((l.takeWhile fun c => decide (c = 63)).length) 63 ++ r
 | [] => ⟨[], rfl⟩
 | c :: l => by
  obtain ⟨r, hr⟩ := run_rep l
  rw [List.takeWhile_cons]
  by_cases h : c = 63
  ·subst h
   refine ⟨r, ?_⟩
   simp only [decide_true, if_true, List.length_cons, List.replicate_succ, List.cons_append]
   rw [← hr]
  ·refine ⟨c :: l, ?_⟩
   simp [h]
theorem rd_tree : ∀ (f k k' : Nat) (x : Item), treeG s f k = .ok x k' → Rd s k (utI x) k' := by
 intro f
 induction f with
 | zero => intro k k' x h; cases h
 | succ f ih =>
  intro k k' x h
  unfold treeG at h
  split at h
  ·injection h with e1 e2
   subst e1; subst e2
   obtain ⟨r, hr⟩ := run_rep (s.drop k)
   have e : utI (.mk (gapN (((s.drop k).takeWhile fun c => decide (c = 63)).length : Nat) (((s.drop k).takeWhile fun c => decide (c = 63)).length : Nat)) [] 0 []) = List.replicate (((s.drop k).takeWhile fun c => decide (c = 63)).length) 63 := by
    rw [ut_mk]
    simp [gapN]
   rw [e]
   generalize ((s.drop k).takeWhile fun c => decide (c = 63)).length = n at hr ⊢
   unfold Rd
   rw [← List.drop_drop, hr, List.drop_append, List.drop_replicate]
   simp
  ·split at h
   ·rename_i hs
    obtain ⟨q, k1, h1, h⟩ := bind_ok h
    obtain ⟨_, k2, h2, h⟩ := bind_ok h
    obtain ⟨xs, k3, h3, h⟩ := bind_ok h
    obtain ⟨_, k4, h4, h⟩ := bind_ok h
    injection h with e1 e2
    subst e1; subst e2
    obtain ⟨w1, w2⟩ := rd_word h1
    obtain ⟨-, i3⟩ := rd_sepT ih _ _ _ _ h3
    have e : utI (.mk (kindN q) [] 0 xs) = [40] ++ (wordOf q ++ ([32] ++ (utL xs ++ [41]))) := by
     rw [ut_mk]
     have a1 : (kindN q).kind = q := rfl
     rw [a1, if_neg (by omega), if_neg (by omega)]
     simp
    rw [e]
    exact (rd_sees hs).trans (w2.trans ((rd_must h2).trans (i3.trans (rd_must h4))))
   ·obtain ⟨h1, h2, h3⟩ := rd_glyph h
    obtain ⟨n, c, p, ks⟩ := x
    rw [ut_mk]
    have h1' : n.kind = 1 := h1
    rw [if_pos h1']
    exact h3
theorem tree_way {xs : List Item} {k : Nat} (h : parseG s 2 = .ok xs k) : utL xs = s := by
 unfold parseG at h
 split at h
 ·rename_i h0
  injection h with e
  subst e
  rw [h0]
  rfl
 ·rw [if_neg (by decide)] at h
  obtain ⟨ys, k1, h1, h⟩ := bind_ok h
  split at h
  ·cases h
  ·rename_i hk
   injection h with e1 e2
   subst e1
   obtain ⟨-, i3⟩ := rd_sepT (rd_tree _) _ _ _ _ h1
   unfold Rd at i3
   rw [List.drop_zero, List.drop_eq_nil_of_le (by omega), List.append_nil] at i3
   exact i3.symm
end
end Cd
