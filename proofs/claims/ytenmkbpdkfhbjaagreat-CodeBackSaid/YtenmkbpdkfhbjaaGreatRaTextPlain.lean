/- A text that is written in the line code is read as it was: plain law.; A text that is written in the tree code is read as it was: plain law.; A valid text's items: they may be written in the line code: plain law.; Glosses can be read back: plain law.; How the reference reads a gloss: what its loops keep. Plain law.; A text in pieces, and numbers in it: plain law. -/
import Derived.Test.YtenmkbpdkfhbjaaGreatRaCdBack
import Derived.Test.YtenmkbpdkfhbjaaGreatRaGlossPlain
import Derived.Lib.Split
namespace Cd
open Go
section
variable {s : List UInt8}
/-- how the text of an item begins that is no ring and no honour -/
theorem first_ok : ∀ (M : Nat) (x : Item) (b : Bool), sizeI x ≤ M → Good x → x.node.kind ≠ 5 → x.node.kind ≠ 7 → ∃ u w, unI b x = u :: w ∧ u ≠ 91 ∧ u ≠ 60 := by
  intro M
  induction M with
  | zero =>
    intro x b hm
    obtain ⟨n, c, p, ks⟩ := x
    rw [sizeI] at hm
    omega
  | succ M ih =>
    intro x b hm hx h5 h7
    by_cases hl : x.node.kind = 1 ∨ x.node.kind = 6
    · obtain ⟨u, w, e, -, a, c⟩ := leaf_first (b := b) (good_leaf hx hl)
      exact ⟨u, w, e, a, c⟩
    · obtain ⟨n, c, p, ks⟩ := x
      have h5' : n.kind ≠ 5 := h5
      have h7' : n.kind ≠ 7 := h7
      have hl' : ¬ (n.kind = 1 ∨ n.kind = 6) := hl
      obtain ⟨h1, hz, hgl, g4, g2, g3, -⟩ := good_inner hx (by omega)
      have hks : ∃ x1 xs, ks = x1 :: xs ∧ x1.node.kind ≠ 5 ∧ x1.node.kind ≠ 7 := by
        have key : 2 ≤ ks.length ∧ ∀ x ∈ ks, x.node.kind ≠ 5 ∧ x.node.kind ≠ 7 := by
          rcases h1 with e | e | e | e | e
          · exact ⟨(g2 e).1, fun x hx => ((g2 e).2 x hx).2⟩
          · exact ⟨(g3 e).1, fun x hx => ((g3 e).2 x hx).2⟩
          · exact ⟨by have := (g4 e).1; omega, fun x hx => by have := (g4 e).2 x hx; omega⟩
          · exact absurd e h5'
          · exact absurd e h7'
        obtain ⟨x1, x2, xs, e⟩ := two_of key.1
        exact ⟨x1, x2 :: xs, e, key.2 x1 (by rw [e]; simp)⟩
      obtain ⟨x1, xs, rfl, k5, k7⟩ := hks
      rw [sizeI, sizeL] at hm
      obtain ⟨u, w, e, a1, a2⟩ := ih x1 (decide (n.kind = 2)) (by omega) (goodL_mem hgl x1 (by simp)) k5 k7
      rw [un_mk, if_neg (by omega), if_neg (by omega), un_two, e]
      by_cases e3 : n.kind = 3
      · cases b
        · exact ⟨u, w ++ unR (betw n.kind) (decide (n.kind = 2)) xs ++ shutU false n.kind, by unfold openU; rw [if_pos e3]; simp, a1, a2⟩
        · exact ⟨40, (u :: w ++ unR (betw n.kind) (decide (n.kind = 2)) xs) ++ shutU true n.kind, by unfold openU; rw [if_pos e3]; simp, by decide, by decide⟩
      · exact ⟨u, w ++ unR (betw n.kind) (decide (n.kind = 2)) xs ++ shutU b n.kind, by unfold openU; rw [if_neg e3, if_neg h5', if_neg h7']; simp, a1, a2⟩
theorem fuel_ok {b : Bool} {x : Item} (hx : Good x) {k : Nat} {r : List UInt8} (h : s.drop k = unI b x ++ r) : sizeI x ≤ N s := by
  have h1 := size_un x b hx
  have h2 := drop_len h
  unfold N
  omega
theorem col_back {x : Item} (hx : Good x) (h5 : x.node.kind ≠ 5) (h7 : x.node.kind ≠ 7) {k : Nat} {r : List UInt8} (h : s.drop k = unI false x ++ r) (hr : St 3 r) : ∃ y, aboveG s (overG s (N s)) false k = .ok y (k + (unI false x).length) ∧ normI y = normI x := by
  have hk := good_kind hx
  have hf := fuel_ok hx h
  have hk2 : x.node.kind = 3 ∨ (false = false ∧ (x.node.kind = 1 ∨ x.node.kind = 6 ∨ x.node.kind = 4 ∨ x.node.kind = 2)) := by
    by_cases e : x.node.kind = 3
    · exact .inl e
    · exact .inr ⟨rfl, by omega⟩
  exact above_back (over_back (N s)) hx hk2 (Nat.le_succ_of_le hf) (fun _ => hf) h hr
theorem part_back {x : Item} (hx : Good x) (h5 : x.node.kind ≠ 5) {k : Nat} {r : List UInt8} (h : s.drop k = unI false x ++ r) (hr : St 3 r) : ∃ y, partG s k = .ok y (k + (unI false x).length) ∧ normI y = normI x := by
  by_cases h7 : x.node.kind = 7
  · obtain ⟨n, c, p, ks⟩ := x
    have e7 : n.kind = 7 := h7
    obtain ⟨h1, hz, hgl, -, -, -, -, g7⟩ := good_inner hx (by omega)
    obtain ⟨hne, hks⟩ := g7 e7
    have hg := goodL_mem hgl
    have eu : unI false (.mk n c p ks) = 91 :: (unL 59 false ks ++ [93]) := by
      rw [un_mk, e7]
      simp [openU, shutU, betw]
    rw [eu] at h ⊢
    have h0 : s.drop k = 91 :: (unL 59 false ks ++ (93 :: r)) := by rw [h]; simp
    have hd := drop_one h0
    obtain ⟨ys, i1, i2, i3⟩ := sep_back (s := s) (p := aboveG s (overG s (N s)) false) (c := 59) (b := false) (m := 3) (by decide) ks hne (fun x hx k r hh hr' => col_back (hg x hx) (hks x hx).1 (hks x hx).2 hh hr') (N s) (k + 1) (93 :: r) (by have a := len_kids 59 false ks; have b := drop_len hd; unfold N; omega) hd (St.cons (by decide)) (by intro q hq; simp at hq; rw [← hq]; decide)
    refine ⟨.mk (kindN 7) [] 0 ys, ?_, ?_⟩
    · unfold partG
      rw [if_pos (sees_yes h0), i1]
      show ((must s (k + 1 + (unL 59 false ks).length) 93).bind _) = _
      rw [must_yes i3]
      have : k + (91 :: (unL 59 false ks ++ [93])).length = k + 1 + (unL 59 false ks).length + 1 := by simp only [List.length_cons, List.length_append, List.length_nil]; omega
      rw [this]
      rfl
    · rw [← e7]
      exact norm_node h1 hz i2
  · obtain ⟨u, w, e, a1, -⟩ := first_ok _ x false (Nat.le_refl _) hx h5 h7
    obtain ⟨y, o1, o2⟩ := col_back hx h5 h7 h hr
    refine ⟨y, ?_, o2⟩
    unfold partG
    rw [if_neg (by rw [sees_no h (by rw [e]; intro q hq; simp at hq; rw [← hq]; exact a1)]; simp)]
    exact o1
theorem group_back {x : Item} (hx : Good x) {k : Nat} {r : List UInt8} (h : s.drop k = unI false x ++ r) (hr : St 3 r) : ∃ y, groupG s k = .ok y (k + (unI false x).length) ∧ normI y = normI x := by
  by_cases h5 : x.node.kind = 5
  · obtain ⟨n, c, p, ks⟩ := x
    have e5 : n.kind = 5 := h5
    obtain ⟨h1, hz, hgl, -, -, -, g5, -⟩ := good_inner hx (by omega)
    obtain ⟨hne, hks⟩ := g5 e5
    have hg := goodL_mem hgl
    have eu : unI false (.mk n c p ks) = 60 :: (unL 45 false ks ++ [62]) := by
      rw [un_mk, e5]
      simp [openU, shutU, betw]
    rw [eu] at h ⊢
    have h0 : s.drop k = 60 :: (unL 45 false ks ++ (62 :: r)) := by rw [h]; simp
    have hd := drop_one h0
    obtain ⟨ys, i1, i2, i3⟩ := sep_back (s := s) (p := partG s) (c := 45) (b := false) (m := 3) (by decide) ks hne (fun x hx k r hh hr' => part_back (hg x hx) (hks x hx) hh hr') (N s) (k + 1) (62 :: r) (by have a := len_kids 45 false ks; have b := drop_len hd; unfold N; omega) hd (St.cons (by decide)) (by intro q hq; simp at hq; rw [← hq]; decide)
    refine ⟨.mk (kindN 5) [] 0 ys, ?_, ?_⟩
    · unfold groupG
      rw [if_pos (sees_yes h0), i1]
      show ((must s (k + 1 + (unL 45 false ks).length) 62).bind _) = _
      rw [must_yes i3]
      have : k + (60 :: (unL 45 false ks ++ [62])).length = k + 1 + (unL 45 false ks).length + 1 := by simp only [List.length_cons, List.length_append, List.length_nil]; omega
      rw [this]
      rfl
    · rw [← e5]
      exact norm_node h1 hz i2
  · have h60 : ∃ u w, unI false x = u :: w ∧ u ≠ 60 := by
      by_cases h7 : x.node.kind = 7
      · obtain ⟨n, c, p, ks⟩ := x
        have e7 : n.kind = 7 := h7
        exact ⟨91, unL 59 false ks ++ [93], by rw [un_mk, e7]; simp [openU, shutU, betw], by decide⟩
      · obtain ⟨u, w, e, -, a2⟩ := first_ok _ x false (Nat.le_refl _) hx h5 h7
        exact ⟨u, w, e, a2⟩
    obtain ⟨u, w, e, a2⟩ := h60
    obtain ⟨y, o1, o2⟩ := part_back hx h5 h hr
    refine ⟨y, ?_, o2⟩
    unfold groupG
    rw [if_neg (by rw [sees_no h (by rw [e]; intro q hq; simp at hq; rw [← hq]; exact a2)]; simp)]
    exact o1
/-- the line code: what is written is read -/
theorem line_back {xs : List Item} (hx : GoodL xs) (hs : s = unL 45 false xs) : ∃ ys k, parseG s 1 = .ok ys k ∧ normL ys = normL xs := by
  cases xs with
  | nil =>
    have : s = [] := by rw [hs, un_nil]
    exact ⟨[], 0, by unfold parseG; rw [if_pos this], rfl⟩
  | cons x xs =>
    have hg := goodL_mem hx
    have hn : s ≠ [] := by
      intro e
      have h1 := size_un x false (hg x (by simp))
      have h2 : 1 ≤ sizeI x := by obtain ⟨n, c, p, ks⟩ := x; rw [sizeI]; omega
      rw [hs, un_two] at e
      have h3 := congrArg List.length e
      rw [List.length_append] at h3
      simp at h3
      rw [h3.1] at h1
      simp at h1
      omega
    have h0 : s.drop 0 = unL 45 false (x :: xs) ++ [] := by rw [List.drop_zero, List.append_nil]; exact hs
    obtain ⟨ys, i1, i2, i3⟩ := sep_back (s := s) (p := groupG s) (c := 45) (b := false) (m := 3) (by decide) (x :: xs) (by simp) (fun x hx k r hh hr' => group_back (hg x hx) hh hr') (N s) 0 [] (by have a := len_kids 45 false (x :: xs); have b := drop_len h0; unfold N; omega) h0 (fun c hc => by cases hc) (fun c hc => by cases hc)
    refine ⟨ys, 0 + (unL 45 false (x :: xs)).length, ?_, i2⟩
    unfold parseG
    rw [if_neg hn, if_pos rfl, i1]
    show (if 0 + (unL 45 false (x :: xs)).length < s.length then _ else _) = _
    rw [if_neg (by rw [hs]; omega)]
end
end Cd
namespace Cd
open Go
section
variable {s : List UInt8}
def Stt (r : List UInt8) : Prop := ∀ c ∈ r.head?, c = 32 ∨ c = 41
theorem Stt.st {r : List UInt8} (h : Stt r) : St 0 r := fun c hc => by
  rcases h c hc with rfl | rfl <;> decide
mutual
/-- an item that may be written in the tree code -/
def GoodT : Item → Prop
  | .mk n c _ ks => (n.kind = 1 ∧ LeafOk false n c ∧ ks = []) ∨ (n.kind = 6 ∧ (n.lo = n.hi ∧ 1 ≤ n.hi ∧ n.sign = 0 ∧ n.turn = 0 ∧ n.mirror = false ∧ n.state = 0) ∧ ks = []) ∨
    ((n.kind = 2 ∨ n.kind = 3 ∨ n.kind = 4 ∨ n.kind = 5 ∨ n.kind = 7) ∧ (n.sign = 0 ∧ n.turn = 0 ∧ n.mirror = false ∧ n.state = 0 ∧ n.lo = 0 ∧ n.hi = 0) ∧ GoodTL ks ∧ ks ≠ [])
def GoodTL : List Item → Prop
  | [] => True
  | x :: xs => GoodT x ∧ GoodTL xs
end
theorem goodT_mem : ∀ {xs : List Item}, GoodTL xs → ∀ x ∈ xs, GoodT x
  | [], _, x, h => by cases h
  | y :: ys, h, x, hx => by
    rw [GoodTL] at h
    rcases List.mem_cons.1 hx with rfl | hx
    · exact h.1
    · exact goodT_mem h.2 x hx
theorem ut_nil : utL [] = [] := by rw [utL]
theorem sepT_back {p : Nat → R Item} : ∀ (xs : List Item), xs ≠ [] → (∀ x ∈ xs, ∀ (k : Nat) (r : List UInt8), s.drop k = utI x ++ r → Stt r → ∃ y, p k = .ok y (k + (utI x).length) ∧ normI y = normI x) →
    ∀ (n k : Nat) (r : List UInt8), xs.length ≤ n → s.drop k = utL xs ++ r → Stt r → (∀ q ∈ r.head?, q ≠ 32) → ∃ ys, sepG s p 32 n k = .ok ys (k + (utL xs).length) ∧ normL ys = normL xs ∧ s.drop (k + (utL xs).length) = r
  | [], h, _ => absurd rfl h
  | [x], _, hp => by
    intro n k r hn h hr hq
    rw [ut_one] at h ⊢
    obtain ⟨y, h1, h2⟩ := hp x (by simp) k r h hr
    obtain ⟨n, rfl⟩ : ∃ m, n = m + 1 := ⟨n - 1, by simp at hn; omega⟩
    refine ⟨[y], ?_, by simp only [normL, h2], drop_add h⟩
    unfold sepG
    rw [h1]
    show (if sees s (k + (utI x).length) 32 = true then _ else _) = _
    rw [if_neg (by rw [sees_no (drop_add h) hq]; simp)]
  | x :: z :: xs, _, hp => by
    intro n k r hn h hr hq
    have e : utL (x :: z :: xs) = utI x ++ (32 :: utL (z :: xs)) := by rw [ut_more]; rfl
    rw [e] at h ⊢
    have h0 : s.drop k = utI x ++ (32 :: (utL (z :: xs) ++ r)) := by rw [h]; simp
    obtain ⟨y, h1, h2⟩ := hp x (by simp) k _ h0 (by intro c hc; simp at hc; exact .inl hc.symm)
    obtain ⟨n, rfl⟩ : ∃ m, n = m + 1 := ⟨n - 1, by simp at hn; omega⟩
    have hd := drop_add h0
    obtain ⟨ys, i1, i2, i3⟩ := sepT_back (z :: xs) (by simp) (fun x hx => hp x (by simp [hx])) n (k + (utI x).length + 1) r (by simp at hn ⊢; omega) (drop_one hd) hr hq
    have hlen : k + (utI x ++ 32 :: utL (z :: xs)).length = k + (utI x).length + 1 + (utL (z :: xs)).length := by simp only [List.length_append, List.length_cons]; omega
    refine ⟨y :: ys, ?_, by rw [normL, normL, h2, i2], by rw [hlen]; exact i3⟩
    unfold sepG
    rw [h1]
    show (if sees s (k + (utI x).length) 32 = true then _ else _) = _
    rw [if_pos (sees_yes hd), i1, hlen]
    rfl
theorem lenT_kids : ∀ xs : List Item, xs.length ≤ (utL xs).length + 1
  | [] => Nat.zero_le _
  | [x] => by simp
  | x :: y :: xs => by
    have ih := lenT_kids (y :: xs)
    rw [ut_more, List.length_append, List.length_append]
    simp only [List.length_cons, List.length_nil] at ih ⊢
    omega
mutual
theorem size_ut : ∀ x : Item, GoodT x → sizeI x ≤ (utI x).length
  | .mk n c p ks, h => by
    rw [GoodT] at h
    rw [ut_mk, sizeI]
    rcases h with ⟨h1, h2, rfl⟩ | ⟨h1, h2, rfl⟩ | ⟨h1, h2, h3, h4⟩
    · obtain ⟨u, w, e, -⟩ := h2.code.head
      rw [if_pos h1, sizeL]
      unfold leafU
      rw [e]
      simp
    · rw [if_neg (by omega), if_pos h1, sizeL, List.length_replicate]
      omega
    · have := size_utL ks h3
      have hp := List.length_pos_iff.2 h4
      rw [if_neg (by omega), if_neg (by omega)]
      simp only [List.length_cons, List.length_append]
      omega
theorem size_utL : ∀ xs : List Item, GoodTL xs → sizeL xs + xs.length ≤ (utL xs).length + 1
  | [], _ => by rw [sizeL]; exact Nat.zero_le _
  | [x], h => by
    rw [GoodTL] at h
    have := size_ut x h.1
    rw [ut_one, sizeL, sizeL]
    simp
    omega
  | x :: y :: xs, h => by
    rw [GoodTL] at h
    have h1 := size_ut x h.1
    have h2 := size_utL (y :: xs) h.2
    rw [ut_more, sizeL, List.length_append, List.length_append]
    simp only [List.length_cons, List.length_nil] at h2 ⊢
    omega
end
theorem common_app : ∀ w r : List UInt8, commonL (w ++ r) w = w.length
  | [], r => by cases r <;> rfl
  | a :: w, r => by rw [List.cons_append, commonL, if_pos rfl, common_app w r, List.length_cons]
theorem word_back {k : Nat} {q : Int} {r : List UInt8} (hq : q = 2 ∨ q = 3 ∨ q = 4 ∨ q = 5 ∨ q = 7) (h : s.drop k = wordOf q ++ r) : wordG s k = .ok q (k + (wordOf q).length) := by
  have hk : kindAt s[k]? = q := by
    rw [at_drop, h]
    rcases hq with rfl | rfl | rfl | rfl | rfl <;> rfl
  unfold wordG
  simp only [hk]
  rw [if_neg (by omega), h, common_app, if_pos rfl]
theorem run_back (n : Nat) {r : List UInt8} (hr : ∀ b ∈ r.head?, b ≠ 63) : ((List.replicate n 63 ++ r).takeWhile fun c => decide (c = 63)).length = n := by
  rw [List.takeWhile_append_of_pos (by intro a ha; rw [List.mem_replicate] at ha; simp [ha.2])]
  have : r.takeWhile (fun c => decide (c = 63)) = [] := by
    cases r with
    | nil => rfl
    | cons b r =>
      have := hr b rfl
      rw [List.takeWhile_cons, if_neg (by simp [this])]
  rw [this, List.append_nil, List.length_replicate]
theorem tree_back : ∀ (f : Nat) (x : Item), GoodT x → sizeI x ≤ f → ∀ (k : Nat) (r : List UInt8), s.drop k = utI x ++ r → Stt r → ∃ y, treeG s f k = .ok y (k + (utI x).length) ∧ normI y = normI x := by
  intro f
  induction f with
  | zero =>
    intro x hx hf
    obtain ⟨n, c, p, ks⟩ := x
    rw [sizeI] at hf
    omega
  | succ f ih =>
    intro x hx hf k r h hr
    obtain ⟨n, c, p, ks⟩ := x
    rw [GoodT] at hx
    rw [ut_mk] at h ⊢
    rcases hx with ⟨h1, h2, rfl⟩ | ⟨h1, h2, rfl⟩ | ⟨h1, h2, h3, h4⟩
    · rw [if_pos h1] at h ⊢
      obtain ⟨u, w, hcu, hup, -⟩ := h2.code.head
      have hu : u ≠ 63 ∧ u ≠ 40 := ⟨fun e => by subst e; exact absurd hup (by decide), fun e => by subst e; exact absurd hup (by decide)⟩
      have hd : s.drop k = u :: (w ++ (if n.mirror = true then [92] else []) ++ (if 0 < n.turn then 47 :: Lib.itoa n.turn else []) ++ (if false = true then (if n.state = 1 then [35] else if n.state = 2 then [61] else if n.state = 3 then [33] else []) else []) ++ r) := by
        rw [h, hcu]
        unfold leafU
        simp
      refine ⟨.mk (glyphN n.turn n.mirror n.state) c k [], ?_, ?_⟩
      · unfold treeG
        rw [if_neg (by rw [sees_no hd (by intro b hb; simp at hb; rw [← hb]; exact hu.1)]; simp), if_neg (by rw [sees_no hd (by intro b hb; simp at hb; rw [← hb]; exact hu.2)]; simp)]
        exact glyph_back h2 h hr.st
      · rw [normI, normI]
        have h3 := h2.rest
        obtain ⟨kd, dp, sg, tn, mr, st, lo, hi⟩ := n
        simp only at h1 h3
        subst h1
        obtain ⟨rfl, rfl⟩ := h3
        rfl
    · rw [if_neg (by omega), if_pos h1] at h ⊢
      obtain ⟨g1, g2, g0, g3, g4, g5⟩ := h2
      have hrun := run_back n.hi.toNat (r := r) (fun b hb => by rcases hr b hb with rfl | rfl <;> decide)
      have hs : sees s k 63 = true := by
        obtain ⟨m, hm⟩ : ∃ m, n.hi.toNat = m + 1 := ⟨n.hi.toNat - 1, by omega⟩
        rw [hm, List.replicate_succ] at h
        exact sees_yes h
      refine ⟨.mk (gapN n.hi n.hi) [] 0 [], ?_, ?_⟩
      · unfold treeG
        rw [if_pos hs]
        simp only [h, hrun]
        have e : ((n.hi.toNat : Nat) : Int) = n.hi := by omega
        rw [e, List.length_replicate]
      · rw [normI, normI]
        obtain ⟨kd, dp, sg, tn, mr, st, lo, hi⟩ := n
        simp only at h1 g0 g1 g3 g4 g5
        subst h1; subst g0; subst g1; subst g3; subst g4; subst g5
        rfl
    · rw [if_neg (by omega), if_neg (by omega)] at h ⊢
      have h0 : s.drop k = 40 :: (wordOf n.kind ++ (32 :: (utL ks ++ (41 :: r)))) := by rw [h]; simp
      have hg := goodT_mem h3
      rw [sizeI] at hf
      have hw := drop_one h0
      have hd := drop_add hw
      have hd1 := drop_one hd
      obtain ⟨ys, i1, i2, i3⟩ := sepT_back (s := s) (p := treeG s f) ks h4 (fun x hx k r hh hr' => ih x (hg x hx) (by have := size_mem hx; omega) k r hh hr') (N s) (k + 1 + (wordOf n.kind).length + 1) (41 :: r) (by have a := lenT_kids ks; have b := drop_len hd1; unfold N; omega) hd1 (by intro c hc; simp at hc; exact .inr hc.symm) (by intro q hq; simp at hq; rw [← hq]; decide)
      refine ⟨.mk (kindN n.kind) [] 0 ys, ?_, norm_node h1 h2 i2⟩
      unfold treeG
      rw [if_neg (by rw [sees_no h0 (by intro b hb; simp at hb; rw [← hb]; decide)]; simp), if_pos (sees_yes h0), word_back h1 hw]
      show ((must s (k + 1 + (wordOf n.kind).length) 32).bind _) = _
      rw [must_yes hd]
      show ((sepG s (treeG s f) 32 (N s) (k + 1 + (wordOf n.kind).length + 1)).bind _) = _
      rw [i1]
      show ((must s (k + 1 + (wordOf n.kind).length + 1 + (utL ks).length) 41).bind _) = _
      rw [must_yes i3]
      have : k + (40 :: (wordOf n.kind ++ 32 :: (utL ks ++ [41]))).length = k + 1 + (wordOf n.kind).length + 1 + (utL ks).length + 1 := by simp only [List.length_cons, List.length_append, List.length_nil]; omega
      rw [this]
      rfl
/-- the tree code: what is written is read -/
theorem forest_back {xs : List Item} (hx : GoodTL xs) (hs : s = utL xs) : ∃ ys k, parseG s 2 = .ok ys k ∧ normL ys = normL xs := by
  cases xs with
  | nil =>
    have : s = [] := by rw [hs, ut_nil]
    exact ⟨[], 0, by unfold parseG; rw [if_pos this], rfl⟩
  | cons x xs =>
    have hg := goodT_mem hx
    have hsz := size_utL (x :: xs) hx
    have hn : s ≠ [] := by
      intro e
      have h2 : 1 ≤ sizeL (x :: xs) := by obtain ⟨n, c, p, ks⟩ := x; rw [sizeL, sizeI]; omega
      rw [← hs, e] at hsz
      simp at hsz
      omega
    have h0 : s.drop 0 = utL (x :: xs) ++ [] := by rw [List.drop_zero, List.append_nil]; exact hs
    have hN : ∀ y ∈ x :: xs, sizeI y ≤ N s := fun y hy => by
      have a := size_mem hy
      have b := drop_len h0
      unfold N
      simp only [List.length_cons] at hsz
      omega
    obtain ⟨ys, i1, i2, i3⟩ := sepT_back (s := s) (p := treeG s (N s)) (x :: xs) (by simp) (fun x hx k r hh hr' => tree_back (N s) x (hg x hx) (hN x hx) k r hh hr') (N s) 0 [] (by have a := lenT_kids (x :: xs); have b := drop_len h0; unfold N; omega) h0 (fun c hc => by cases hc) (fun c hc => by cases hc)
    refine ⟨ys, 0 + (utL (x :: xs)).length, ?_, i2⟩
    unfold parseG
    rw [if_neg hn, if_neg (by decide), i1]
    show (if 0 + (utL (x :: xs)).length < s.length then _ else _) = _
    rw [if_neg (by rw [hs]; omega)]
end
end Cd
namespace Cd
open Go
open Tx
mutual
/-- the item stands at place i of the nodes, at depth d -/
def RepI (ns : List Tx.Node) (d : Int) (i : Nat) : Item → Prop
  | .mk n _ _ ks => i < ns.length ∧ n = nd ns i ∧ dp ns i = d ∧ RepL ns (d + 1) (i + 1) (endV ns i) ks
/-- the items fill the places from i to j -/
def RepL (ns : List Tx.Node) (d : Int) (i j : Nat) : List Item → Prop
  | [] => i = j
  | x :: xs => RepI ns d i x ∧ RepL ns d (endV ns i) j xs
end
theorem rep_le {ns : List Tx.Node} {d : Int} : ∀ {xs : List Item} {i j : Nat}, RepL ns d i j xs → i ≤ j
  | [], i, j, h => by rw [RepL] at h; omega
  | x :: xs, i, j, h => by
    rw [RepL] at h
    have := rep_le h.2
    have := end_gt ns i
    omega
theorem nd_at {ns : List Tx.Node} {i : Nat} (h : i < ns.length) : ns.drop i = nd ns i :: ns.drop (i + 1) := by
  rw [List.drop_eq_getElem_cons h]
  congr 1
  unfold nd
  rw [List.getElem?_eq_getElem h]
  rfl
/-- growing fills the places up to the first node that is less deep -/
theorem grow_rep {ns : List Tx.Node} (hd : Deep ns) : ∀ (f : Nat) (d : Int) (i : Nat), ns.length - i < f → i ≤ ns.length → (i < ns.length → dp ns i ≤ d) →
    ∃ j, (growV f d (ns.drop i)).2 = ns.drop j ∧ i ≤ j ∧ j ≤ ns.length ∧ RepL ns d i j (growV f d (ns.drop i)).1 ∧ (j < ns.length → dp ns j < d) ∧ ∀ k, i ≤ k → k < j → d ≤ dp ns k := by
  intro f
  induction f with
  | zero => intro d i h; omega
  | succ f ih =>
    intro d i hf hi h0
    by_cases hlt : i < ns.length
    · have hn := nd_at hlt
      have hdp : (nd ns i).depth = dp ns i := rfl
      rw [hn]
      unfold growV
      by_cases hle : d ≤ dp ns i
      · rw [hdp, if_pos hle]
        have hde : dp ns i = d := by have := h0 hlt; omega
        obtain ⟨j1, a1, a2, a3, a4, a5, a6⟩ := ih (d + 1) (i + 1) (by omega) (by omega) (fun q => by have := hd.step i q; omega)
        have hend : endV ns i = j1 := end_eq (by omega) (fun k b1 b2 => by have := a6 k (by omega) b2; omega) (by
          rcases Nat.lt_or_ge j1 ns.length with q | q
          · exact .inr ⟨q, by have := a5 q; omega⟩
          · exact .inl (by omega))
        obtain ⟨j, b1, b2, b3, b4, b5, b6⟩ := ih d j1 (by omega) a3 (fun q => by have := a5 q; omega)
        simp only [a1]
        refine ⟨j, b1, by omega, b3, ?_, b5, fun k c1 c2 => ?_⟩
        · rw [RepL, RepI, hend]
          exact ⟨⟨hlt, rfl, hde, a4⟩, b4⟩
        · by_cases e : k = i
          · subst e; omega
          · by_cases e2 : k < j1
            · have := a6 k (by omega) e2; omega
            · exact b6 k (by omega) c2
      · rw [hdp, if_neg hle]
        exact ⟨i, hn.symm, Nat.le_refl _, hi, by rw [RepL], fun _ => by omega, fun k c1 c2 => by omega⟩
    · have : ns.drop i = [] := List.drop_eq_nil_of_le (by omega)
      rw [this]
      exact ⟨i, this.symm, Nat.le_refl _, hi, by unfold growV; rw [RepL], fun q => absurd q hlt, fun k c1 c2 => by omega⟩
theorem grow_all {ns : List Tx.Node} (hd : Deep ns) : RepL ns 0 0 ns.length (growV (ns.length + 1) 0 ns).1 := by
  obtain ⟨j, -, -, h3, h4, h5, -⟩ := grow_rep hd (ns.length + 1) 0 0 (by omega) (by omega) (fun q => by rw [hd.first q]; exact Int.le_refl _)
  rw [List.drop_zero] at h4
  have : j = ns.length := by
    rcases Nat.lt_or_ge j ns.length with q | q
    · have a := h5 q
      have b := hd.pos j q
      omega
    · omega
  rw [this] at h4
  exact h4
mutual
/-- laid flat, they are the nodes again -/
theorem flat_repI {ns : List Tx.Node} (d : Int) : ∀ (x : Item) (i : Nat), RepI ns d i x → flatI d x ++ ns.drop (endV ns i) = ns.drop i
  | .mk n c p ks, i, h => by
    rw [RepI] at h
    obtain ⟨h1, h2, h3, h4⟩ := h
    have := flat_repL (ns := ns) (d + 1) ks (i + 1) (endV ns i) h4
    rw [flatI, List.cons_append, this, nd_at h1, ← h2]
    congr 1
    have hdn : n.depth = d := by rw [h2]; exact h3
    rw [← hdn]
theorem flat_repL {ns : List Tx.Node} (d : Int) : ∀ (xs : List Item) (i j : Nat), RepL ns d i j xs → flatL d xs ++ ns.drop j = ns.drop i
  | [], i, j, h => by
    rw [RepL] at h
    rw [flatL, h]
    rfl
  | x :: xs, i, j, h => by
    rw [RepL] at h
    have h1 := flat_repI (ns := ns) d x i h.1
    have h2 := flat_repL (ns := ns) d xs (endV ns i) j h.2
    rw [flatL, List.append_assoc, h2, h1]
end
theorem flat_grow {ns : List Tx.Node} (hd : Deep ns) : flatL 0 (growV (ns.length + 1) 0 ns).1 = ns := by
  have := flat_repL 0 _ 0 ns.length (grow_all hd)
  rw [List.drop_length, List.append_nil, List.drop_zero] at this
  exact this
/-- where the items of a row stand -/
def places (ns : List Tx.Node) : Nat → List Item → List Nat
  | _, [] => []
  | i, _ :: xs => i :: places ns (endV ns i) xs
theorem places_jump {ns : List Tx.Node} {d : Int} : ∀ (xs : List Item) (i j f : Nat), RepL ns d i j xs → xs.length ≤ f → jump ns f i j = places ns i xs
  | [], i, j, f, h, _ => by
    rw [RepL] at h
    cases f with
    | zero => rfl
    | succ f =>
      unfold jump places
      rw [if_neg (by omega)]
  | x :: xs, i, j, f, h, hf => by
    rw [RepL] at h
    obtain ⟨f, rfl⟩ : ∃ m, f = m + 1 := ⟨f - 1, by simp at hf; omega⟩
    have hlt : i < j := by
      have := rep_le h.2
      have := end_gt ns i
      omega
    unfold jump places
    rw [if_pos hlt, places_jump xs (endV ns i) j f h.2 (by simp at hf; omega)]
theorem places_len (ns : List Tx.Node) : ∀ (xs : List Item) (i : Nat), (places ns i xs).length = xs.length
  | [], _ => rfl
  | x :: xs, i => by unfold places; rw [List.length_cons, places_len ns xs, List.length_cons]
/-- the kids of an item stand at the kids of its place -/
theorem kids_places {ns : List Tx.Node} (hd : Deep ns) {i : Nat} (hi : i < ns.length) {d : Int} {ks : List Item} (h : RepL ns d (i + 1) (endV ns i) ks) : places ns (i + 1) ks = kidsV ns i := by
  rw [← jump_eq hd hi (f := ns.length + ks.length) (by omega), places_jump ks (i + 1) (endV ns i) _ h (by omega)]
/-- each item of a row has its place -/
theorem rep_mem {ns : List Tx.Node} {d : Int} : ∀ {xs : List Item} {i j : Nat}, RepL ns d i j xs → ∀ x ∈ xs, ∃ k ∈ places ns i xs, RepI ns d k x
  | [], i, j, _, x, hx => by cases hx
  | y :: ys, i, j, h, x, hx => by
    rw [RepL] at h
    rcases List.mem_cons.1 hx with rfl | hx
    · exact ⟨i, by unfold places; simp, h.1⟩
    · obtain ⟨k, hk, hr⟩ := rep_mem h.2 x hx
      exact ⟨k, by unfold places; simp [hk], hr⟩
theorem rep_kind {ns : List Tx.Node} {d : Int} {k : Nat} {x : Item} (h : RepI ns d k x) : x.node.kind = kd ns k := by
  obtain ⟨n, c, p, ks⟩ := x
  rw [RepI] at h
  show n.kind = _
  rw [h.2.1]
  rfl
end Cd
namespace Lx
open Go

theorem index_byte {c : UInt8} (b : List UInt8) : ∀ {a : List UInt8}, c ∉ a → Lib.index (a ++ c :: b) [c] = (a.length : Int)
  | [], _ => by simp [Lib.index]
  | x :: l, h => by
    have hx : ¬ c = x := fun e => h (by simp [e])
    have ih := index_byte (c := c) b (a := l) (fun q => h (List.mem_cons_of_mem _ q))
    rw [List.cons_append, Lib.index, ih, if_neg (by simp [hx]), if_neg (by rw [beq_iff_eq]; omega)]
    simp
theorem index_byte_none {c : UInt8} : ∀ {a : List UInt8}, c ∉ a → Lib.index a [c] = -1
  | [], _ => by simp [Lib.index]
  | x :: l, h => by
    have hx : ¬ c = x := fun e => h (by simp [e])
    rw [Lib.index, index_byte_none (c := c) (a := l) (fun q => h (List.mem_cons_of_mem _ q)), if_neg (by simp [hx])]
    rfl
theorem split_byte {c : UInt8} : ∀ (ws : List (List UInt8)) (a : List UInt8), c ∉ a → (∀ w ∈ ws, c ∉ w) → Lib.split (a ++ ws.flatMap (c :: ·)) [c] = a :: ws
  | [], a, ha, _ => by
    have e : a ++ ([] : List (List UInt8)).flatMap (c :: ·) = a := by simp
    rw [e]
    unfold Lib.split
    rw [Lib.count_miss (index_byte_none ha)]
    rfl
  | w :: ws, a, ha, hw => by
    have e : a ++ (w :: ws).flatMap (c :: ·) = a ++ c :: (w ++ ws.flatMap (c :: ·)) := by simp
    rw [e]
    have hi := index_byte (w ++ ws.flatMap (c :: ·)) ha
    have ed : (a ++ c :: (w ++ ws.flatMap (c :: ·))).drop (a.length + [c].length) = w ++ ws.flatMap (c :: ·) := by
      rw [List.length_singleton, ← List.drop_drop, List.drop_left]
      rfl
    have ih := split_byte ws w (hw w (by simp)) (fun v hv => hw v (by simp [hv]))
    unfold Lib.split at ih ⊢
    rw [Lib.count_hit (by simp) hi, ed, Nat.add_comm, Lib.splitK, hi, if_neg (by rw [beq_iff_eq]; omega)]
    simp only [Int.toNat_natCast, Nat.add_zero]
    rw [ed, ih, List.take_left]
theorem cut_byte {c : UInt8} {a : List UInt8} (b : List UInt8) (h : c ∉ a) : Lib.cut (a ++ c :: b) [c] = (a, b, true) := by
  have hi := index_byte b h
  unfold Lib.cut
  rw [hi, if_pos (by omega)]
  simp only [Int.toNat_natCast, List.length_singleton]
  rw [List.take_left, ← List.drop_drop, List.drop_left]
  rfl
theorem cut_byte_none {c : UInt8} {a : List UInt8} (h : c ∉ a) : Lib.cut a [c] = (a, [], false) := by
  unfold Lib.cut
  rw [index_byte_none h, if_neg (by omega)]


/-- the digit of a kind -/
def dig (k : Int) : UInt8 := UInt8.ofNat (48 + k.toNat)
theorem dig_cases {k : Int} (h : 1 ≤ k ∧ k ≤ 9) : k = 1 ∨ k = 2 ∨ k = 3 ∨ k = 4 ∨ k = 5 ∨ k = 6 ∨ k = 7 ∨ k = 8 ∨ k = 9 := by omega
theorem dig_not {k : Int} (h : 1 ≤ k ∧ k ≤ 9) : dig k ≠ 61 ∧ dig k ≠ 45 ∧ dig k ≠ 47 := by
  rcases dig_cases h with rfl | rfl | rfl | rfl | rfl | rfl | rfl | rfl | rfl <;> decide
/-- one more clitic -/
def more (f : Form) (c : Nat) : Form := ⟨f.entry, f.ending, f.clitics ++ [(c : Int)]⟩
/-- f is what g is up to clitic c -/
structure OnWay (g f : Form) (c : Nat) : Prop where
  ent : f.entry = g.entry
  fin : f.ending = g.ending
  ex : ∃ m, m ≤ g.clitics.length ∧ f.clitics = g.clitics.take m ∧ ∀ j a, m ≤ j → g.clitics[j]? = some a → (c : Int) ≤ a
end Lx
namespace Lx
open Go


/-- what the third loop keeps -/
structure OnF (x : Lexicon) (s : ByteArray) (i k c : Nat) (f : Form) : Prop where
  ent : f.entry = (i : Int)
  fin : f.ending = (k : Int) - 1
  val : formV x f = 0
  low : ∀ a ∈ f.clitics, a < (c : Int)
  way : ∀ g, formV x g = 0 → glossV x g = s → g.entry = (i : Int) → g.ending = (k : Int) - 1 → OnWay g f c
theorem OnF.few {x : Lexicon} {s : ByteArray} {i k c : Nat} {f : Form} (h : OnF x s i k c f) : f.clitics.length ≤ 3 := (valid_of h.val).few
end Lx
namespace Lx
/-- the pieces that have ended, and the one under way -/
def pst (c : UInt8) (l : List UInt8) : List (List UInt8) × List UInt8 := l.foldl (fun s b => if b = c then (s.1 ++ [s.2], []) else (s.1, s.2 ++ [b])) ([], [])
theorem pst_snoc (c : UInt8) (l : List UInt8) (b : UInt8) : pst c (l ++ [b]) = if b = c then ((pst c l).1 ++ [(pst c l).2], []) else ((pst c l).1, (pst c l).2 ++ [b]) := by
  unfold pst
  rw [List.foldl_append]
  rfl
theorem list_rev_ind {α : Type} {P : List α → Prop} (h0 : P []) (h1 : ∀ l a, P l → P (l ++ [a])) : ∀ l, P l := by
  intro l
  have key : ∀ n (l : List α), l.length = n → P l := by
    intro n
    induction n with
    | zero => intro l h; rw [List.eq_nil_of_length_eq_zero h]; exact h0
    | succ n ih =>
      intro l h
      have hne : l ≠ [] := fun e => by rw [e] at h; simp at h
      rw [← List.dropLast_concat_getLast hne]
      exact h1 _ _ (ih _ (by rw [List.length_dropLast]; omega))
  exact key _ l rfl
theorem pst_join (c : UInt8) (l : List UInt8) : ∃ a ws, (pst c l).1 ++ [(pst c l).2] = a :: ws ∧ l = a ++ ws.flatMap (c :: ·) ∧ c ∉ a ∧ ∀ w ∈ ws, c ∉ w := by
  refine list_rev_ind (P := fun l => ∃ a ws, (pst c l).1 ++ [(pst c l).2] = a :: ws ∧ l = a ++ ws.flatMap (c :: ·) ∧ c ∉ a ∧ ∀ w ∈ ws, c ∉ w) ⟨[], [], rfl, rfl, by simp, by simp⟩ (fun l b h => ?_) l
  obtain ⟨a, ws, h1, h2, h3, h4⟩ := h
  rw [pst_snoc]
  by_cases hb : b = c
  · rw [if_pos hb]
    refine ⟨a, ws ++ [[]], by simp only; rw [h1]; rfl, ?_, h3, fun w hw => ?_⟩
    · rw [List.flatMap_append, ← List.append_assoc, ← h2, hb]
      simp
    · rw [List.mem_append, List.mem_singleton] at hw
      rcases hw with hw | rfl
      · exact h4 w hw
      · simp
  · rw [if_neg hb]
    simp only
    cases hd : (pst c l).1 with
    | nil =>
      rw [hd] at h1
      simp only [List.nil_append, List.cons.injEq] at h1
      obtain ⟨e1, e2⟩ := h1
      subst e2
      refine ⟨a ++ [b], [], by rw [e1]; rfl, by rw [h2]; simp, ?_, by simp⟩
      rw [List.mem_append, List.mem_singleton]
      exact fun q => q.elim h3 fun e => hb e.symm
    | cons p q =>
      rw [hd] at h1
      simp only [List.cons_append, List.cons.injEq] at h1
      obtain ⟨e1, e2⟩ := h1
      subst e1
      refine ⟨p, q ++ [(pst c l).2 ++ [b]], rfl, ?_, h3, fun w hw => ?_⟩
      · conv => lhs; rw [h2, ← e2]
        rw [List.flatMap_append, List.flatMap_append]
        simp
      · rw [List.mem_append, List.mem_singleton] at hw
        rcases hw with hw | rfl
        · exact h4 w (by rw [← e2]; simp [hw])
        · rw [List.mem_append, List.mem_singleton]
          exact fun q' => q'.elim (h4 _ (by rw [← e2]; simp)) fun e => hb e.symm
theorem pst_split (c : UInt8) (l : List UInt8) : Go.Lib.split l [c] = (pst c l).1 ++ [(pst c l).2] := by
  obtain ⟨a, ws, h1, h2, h3, h4⟩ := pst_join c l
  rw [h1]
  conv => lhs; rw [h2]
  exact split_byte ws a h3 h4
/-- the value of digits -/
def digV (l : List UInt8) : Int := l.foldl (fun n b => 10 * n + ((b.toNat : Int) - 48)) 0
def digB (b : UInt8) : Bool := decide (48 ≤ b.toNat) && decide (b.toNat ≤ 57)
/-- whether a text is a number of one to most digits -/
def numB (l : List UInt8) (most : Int) : Bool := decide (1 ≤ l.length) && decide ((l.length : Int) ≤ most) && !(decide (l[0]? = some 48) && decide (1 < l.length)) && l.all digB
def numV (l : List UInt8) (most : Int) : Int := if numB l most = true then digV l else 0
end Lx
