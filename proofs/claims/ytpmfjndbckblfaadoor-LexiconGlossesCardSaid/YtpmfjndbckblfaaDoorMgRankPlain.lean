/- Cuts: plain notions. 'put' is one more into the list of the best. The order of cuts; the first of a sorted list: plain law. -/
import Derived.Test.YtpmfjndbckblfaaDoorMgRead
namespace Lx
/-- a cut of the end of a line: weights from each form on, and the forms -/
abbrev Tail := List (Int × Form)
def Match.form (m : Match) : Form := ⟨m.entry, m.ending, m.clitics⟩
def tw : Tail → Int
  | [] => 0
  | a :: _ => a.1
def push (x : Lexicon) (m : Match) (t : Tail) : Tail := (heavyV x m.form + tw t, m.form) :: t
def addNexts (x : Lexicon) (put : List Tail → Tail → List Tail) (m : Match) (nexts : List Tail) (l : List Tail) : List Tail := nexts.foldl (fun l t => put l (push x m t)) l
def addMs (x : Lexicon) (put : List Tail → Tail → List Tail) (tab : Nat → List Tail) (i : Nat) (ms : List Match) (l : List Tail) : List Tail := ms.foldl (fun l m => addNexts x put m (tab (i + m.long)) l) l
/-- the tails from each place on, k places done -/
def tabT (x : Lexicon) (put : List Tail → Tail → List Tail) (ats : Nat → List Match) (n : Nat) : Nat → Nat → List Tail
  | 0 => fun j => if j = n then [[]] else []
  | k + 1 => fun j => if j = n - (k + 1) then addMs x put (tabT x put ats n k) (n - (k + 1)) (ats (n - (k + 1))) [] else tabT x put ats n k j
theorem addNexts_succ {x : Lexicon} {put : List Tail → Tail → List Tail} {m : Match} {nexts : List Tail} {l : List Tail} {b : Nat} {t : Tail} (h : nexts[b]? = some t) : addNexts x put m (nexts.take (b + 1)) l = put (addNexts x put m (nexts.take b) l) (push x m t) := by
  obtain ⟨hb, rfl⟩ := List.getElem?_eq_some_iff.1 h
  unfold addNexts
  rw [List.take_succ_eq_append_getElem hb, List.foldl_append]
  rfl
theorem addMs_succ {x : Lexicon} {put : List Tail → Tail → List Tail} {tab : Nat → List Tail} {i : Nat} {ms : List Match} {l : List Tail} {a : Nat} {m : Match} (h : ms[a]? = some m) :
    addMs x put tab i (ms.take (a + 1)) l = addNexts x put m (tab (i + m.long)) (addMs x put tab i (ms.take a) l) := by
  obtain ⟨hb, rfl⟩ := List.getElem?_eq_some_iff.1 h
  unfold addMs
  rw [List.take_succ_eq_append_getElem hb, List.foldl_append]
  rfl
/-- where one more is put into the list of the best -/
structure Occ (x : Lexicon) (put : List Tail → Tail → List Tail) (ats : Nat → List Match) (n : Nat) (l : List Tail) (t : Tail) : Prop where
  ex : ∃ k a b m nx, k < n ∧ (ats (n - (k + 1)))[a]? = some m ∧ (tabT x put ats n k (n - (k + 1) + m.long))[b]? = some nx ∧ t = push x m nx ∧
    l = addNexts x put m ((tabT x put ats n k (n - (k + 1) + m.long)).take b) (addMs x put (tabT x put ats n k) (n - (k + 1)) ((ats (n - (k + 1))).take a) [])
/-- weights stay small -/
theorem foldl_inv {α β : Type} {P : α → Prop} {f : α → β → α} : ∀ (l : List β) (a : α), P a → (∀ a b, P a → b ∈ l → P (f a b)) → P (l.foldl f a)
  | [], a, h, _ => h
  | b :: r, a, h, hs => foldl_inv r (f a b) (hs a b h (by simp)) (fun a' b' h' hb => hs a' b' h' (by simp [hb]))
theorem tab_tw {x : Lexicon} {put : List Tail → Tail → List Tail} {ats : Nat → List Match} {n : Nat} (hc : checkV x = 0) (hput : ∀ l t y, y ∈ put l t → y = t ∨ y ∈ l) (hat : ∀ j m, m ∈ ats j → 1 ≤ m.long ∧ m.clitics.length ≤ 3) :
    ∀ k, ∀ j, ∀ t ∈ tabT x put ats n k j, 0 ≤ tw t ∧ tw t ≤ 5000 * k := by
  intro k
  induction k with
  | zero =>
    intro j t ht
    simp only [tabT] at ht
    split at ht
    · simp at ht; subst ht; simp [tw]
    · simp at ht
  | succ k ih =>
    intro j t ht
    simp only [tabT] at ht
    split at ht
    · refine foldl_inv (P := fun l => ∀ t ∈ l, 0 ≤ tw t ∧ tw t ≤ 5000 * ((k + 1 : Nat) : Int)) (ats (n - (k + 1))) [] (by simp) ?_ t ht
      intro l m hl hm
      refine foldl_inv (P := fun l => ∀ t ∈ l, 0 ≤ tw t ∧ tw t ≤ 5000 * ((k + 1 : Nat) : Int)) _ l hl ?_
      intro l' nx hl' hnx y hy
      rcases hput _ _ _ hy with rfl | hy
      · have h1 := ih _ _ hnx
        have h2 := heavyV_le (f := m.form) hc (hat _ _ hm).2
        simp only [push, tw]
        simp only [tw] at h1
        omega
      · exact hl' y hy
    · have := ih j t ht
      omega
theorem tab_llen {x : Lexicon} {put : List Tail → Tail → List Tail} {ats : Nat → List Match} {n : Nat} (hlen : ∀ l t, (put l t).length ≤ 64) : ∀ k j, (tabT x put ats n k j).length ≤ 64 := by
  intro k
  induction k with
  | zero => intro j; simp only [tabT]; split <;> simp
  | succ k ih =>
    intro j
    simp only [tabT]
    split
    · refine foldl_inv (P := fun l : List Tail => l.length ≤ 64) _ [] (by simp) ?_
      intro l m hl _
      exact foldl_inv (P := fun l : List Tail => l.length ≤ 64) _ l hl (fun l' nx _ _ => hlen _ _)
    · exact ih j
theorem tab_tlen {x : Lexicon} {put : List Tail → Tail → List Tail} {ats : Nat → List Match} {n : Nat} (hput : ∀ l t y, y ∈ put l t → y = t ∨ y ∈ l) : ∀ k j, ∀ t ∈ tabT x put ats n k j, t.length ≤ k := by
  intro k
  induction k with
  | zero =>
    intro j t ht
    simp only [tabT] at ht
    split at ht
    · simp at ht; subst ht; simp
    · simp at ht
  | succ k ih =>
    intro j t ht
    simp only [tabT] at ht
    split at ht
    · refine foldl_inv (P := fun l : List Tail => ∀ t ∈ l, t.length ≤ k + 1) _ [] (by simp) ?_ t ht
      intro l m hl _
      refine foldl_inv (P := fun l : List Tail => ∀ t ∈ l, t.length ≤ k + 1) _ l hl ?_
      intro l' nx hl' hnx y hy
      rcases hput _ _ _ hy with rfl | hy
      · have := ih _ _ hnx
        simp [push]; omega
      · exact hl' y hy
    · have := ih j t ht
      omega
theorem tab_forms {x : Lexicon} {put : List Tail → Tail → List Tail} {ats : Nat → List Match} {n : Nat} {P : Form → Prop} (hput : ∀ l t y, y ∈ put l t → y = t ∨ y ∈ l) (hat : ∀ j m, m ∈ ats j → P m.form) : ∀ k j, ∀ t ∈ tabT x put ats n k j, ∀ a ∈ t, P a.2 := by
  intro k
  induction k with
  | zero =>
    intro j t ht
    simp only [tabT] at ht
    split at ht
    · simp at ht; subst ht; simp
    · simp at ht
  | succ k ih =>
    intro j t ht
    simp only [tabT] at ht
    split at ht
    · refine foldl_inv (P := fun l : List Tail => ∀ t ∈ l, ∀ a ∈ t, P a.2) _ [] (by simp) ?_ t ht
      intro l m hl hm
      refine foldl_inv (P := fun l : List Tail => ∀ t ∈ l, ∀ a ∈ t, P a.2) _ l hl ?_
      intro l' nx hl' hnx y hy
      rcases hput _ _ _ hy with rfl | hy
      · intro a ha
        simp only [push, List.mem_cons] at ha
        rcases ha with rfl | ha
        · exact hat _ _ hm
        · exact ih _ _ hnx a ha
      · exact hl' y hy
    · exact ih j t ht
def cutsOf (l : List Tail) : List (List Form × Int) := l.map fun t => (t.map (·.2), tw t)
theorem cutsOf_succ {l : List Tail} {a : Nat} {t : Tail} (h : l[a]? = some t) : cutsOf (l.take (a + 1)) = cutsOf (l.take a) ++ [(t.map (·.2), tw t)] := by
  obtain ⟨hb, rfl⟩ := List.getElem?_eq_some_iff.1 h
  unfold cutsOf
  rw [List.take_succ_eq_append_getElem hb, List.map_append]
  rfl
theorem tab_ne {x : Lexicon} {put : List Tail → Tail → List Tail} {ats : Nat → List Match} {n : Nat} (hn : 1 ≤ n) (hput : ∀ l t y, y ∈ put l t → y = t ∨ y ∈ l) : ∀ t ∈ tabT x put ats n n 0, t ≠ [] := by
  obtain ⟨k, rfl⟩ : ∃ k, n = k + 1 := ⟨n - 1, by omega⟩
  intro t ht
  simp only [tabT] at ht
  rw [if_pos (by omega)] at ht
  refine foldl_inv (P := fun l => ∀ t ∈ l, t ≠ []) _ [] (by simp) ?_ t ht
  intro l m hl _
  refine foldl_inv (P := fun l => ∀ t ∈ l, t ≠ []) _ l hl ?_
  intro l' nx hl' _ y hy
  rcases hput _ _ _ hy with rfl | hy
  · simp [push]
  · exact hl' y hy
end Lx
namespace Lx
theorem cmpL_neg : ∀ (asq bs : List Int), cmpL asq bs = -cmpL bs asq
  | [], [] => by simp [cmpL]
  | [], b :: bs => by simp [cmpL]
  | a :: asq, [] => by simp [cmpL]
  | a :: asq, b :: bs => by
    rw [cmpL, cmpL]
    by_cases h : a = b
    · rw [if_pos h, if_pos h.symm]; exact cmpL_neg asq bs
    · rw [if_neg h, if_neg (fun e => h e.symm)]; omega
theorem cmpF_neg (a b : Form) : cmpF a b = -cmpF b a := by
  unfold cmpF
  by_cases h : a.entry = b.entry
  · rw [if_pos h, if_pos h.symm]
    by_cases h2 : a.ending = b.ending
    · rw [if_pos h2, if_pos h2.symm]; exact cmpL_neg _ _
    · rw [if_neg h2, if_neg (fun e => h2 e.symm)]; omega
  · rw [if_neg h, if_neg (fun e => h e.symm)]; omega
theorem cmpL_trans : ∀ {asq bs cs : List Int}, cmpL asq bs < 0 → cmpL bs cs < 0 → cmpL asq cs < 0
  | [], [], cs, h, _ => by simp [cmpL] at h
  | [], b :: bs, [], _, h => by simp [cmpL] at h; omega
  | [], b :: bs, c :: cs, _, _ => by simp [cmpL] <;> omega
  | a :: asq, [], cs, h, _ => by (simp [cmpL] at h) <;> omega
  | a :: asq, b :: bs, [], _, h => by simp [cmpL] at h; omega
  | a :: asq, b :: bs, c :: cs, h1, h2 => by
    rw [cmpL] at h1 h2 ⊢
    by_cases e1 : a = b
    · rw [if_pos e1] at h1
      by_cases e2 : b = c
      · rw [if_pos e2] at h2
        rw [if_pos (e1.trans e2)]
        exact cmpL_trans h1 h2
      · rw [if_neg e2] at h2
        rw [if_neg (fun e => e2 (e1.symm.trans e)), e1]
        exact h2
    · rw [if_neg e1] at h1
      by_cases e2 : b = c
      · rw [if_neg (fun e => e1 (e.trans e2.symm)), ← e2]
        exact h1
      · rw [if_neg e2] at h2
        rw [if_neg (by omega)]
        omega
theorem cmpF_trans {a b c : Form} (h1 : cmpF a b < 0) (h2 : cmpF b c < 0) : cmpF a c < 0 := by
  unfold cmpF at *
  by_cases e1 : a.entry = b.entry
  · rw [if_pos e1] at h1
    by_cases e2 : b.entry = c.entry
    · rw [if_pos e2] at h2
      rw [if_pos (e1.trans e2)]
      by_cases g1 : a.ending = b.ending
      · rw [if_pos g1] at h1
        by_cases g2 : b.ending = c.ending
        · rw [if_pos g2] at h2
          rw [if_pos (g1.trans g2)]
          exact cmpL_trans h1 h2
        · rw [if_neg g2] at h2
          rw [if_neg (fun e => g2 (g1.symm.trans e)), g1]
          exact h2
      · rw [if_neg g1] at h1
        by_cases g2 : b.ending = c.ending
        · rw [if_neg (fun e => g1 (e.trans g2.symm)), ← g2]
          exact h1
        · rw [if_neg g2] at h2
          rw [if_neg (by omega)]
          omega
    · rw [if_neg e2] at h2
      rw [if_neg (fun e => e2 (e1.symm.trans e)), e1]
      exact h2
  · rw [if_neg e1] at h1
    by_cases e2 : b.entry = c.entry
    · rw [if_neg (fun e => e1 (e.trans e2.symm)), ← e2]
      exact h1
    · rw [if_neg e2] at h2
      rw [if_neg (by omega)]
      omega
/-- comes before: the forms, then fewer of them -/
def rbL : List Form → List Form → Bool
  | a :: asq, b :: bs => if cmpF a b = 0 then rbL asq bs else decide (cmpF a b < 0)
  | asq, bs => decide (asq.length < bs.length)
abbrev Cut := List Form × Int
def rb (c d : Cut) : Bool := if c.2 = d.2 then rbL c.1 d.1 else decide (c.2 < d.2)
theorem rbL_irrefl : ∀ asq, rbL asq asq = false
  | [] => rfl
  | a :: asq => by rw [rbL, if_pos (cmpF_zero.2 rfl)]; exact rbL_irrefl asq
theorem rbL_trans : ∀ {asq bs cs : List Form}, rbL asq bs = true → rbL bs cs = true → rbL asq cs = true
  | [], [], cs, h, _ => by simp [rbL] at h
  | [], b :: bs, [], _, h => by simp [rbL] at h
  | [], b :: bs, c :: cs, _, _ => by simp [rbL]
  | a :: asq, [], cs, h, _ => by simp [rbL] at h
  | a :: asq, b :: bs, [], _, h => by simp [rbL] at h
  | a :: asq, b :: bs, c :: cs, h1, h2 => by
    rw [rbL] at h1 h2 ⊢
    by_cases e1 : cmpF a b = 0
    · rw [if_pos e1] at h1
      have e1' := cmpF_zero.1 e1
      subst e1'
      by_cases e2 : cmpF a c = 0
      · rw [if_pos e2] at h2 ⊢
        exact rbL_trans h1 h2
      · rw [if_neg e2] at h2 ⊢
        exact h2
    · rw [if_neg e1] at h1
      by_cases e2 : cmpF b c = 0
      · have e2' := cmpF_zero.1 e2
        subst e2'
        rw [if_neg e1]
        exact h1
      · rw [if_neg e2] at h2
        have h3 := cmpF_trans (of_decide_eq_true h1) (of_decide_eq_true h2)
        rw [if_neg (by omega)]
        simpa using h3
theorem rbL_total : ∀ {asq bs : List Form}, rbL asq bs = false → rbL bs asq = false → asq = bs
  | [], [], _, _ => rfl
  | [], b :: bs, h, _ => by simp [rbL] at h
  | a :: asq, [], _, h => by simp [rbL] at h
  | a :: asq, b :: bs, h1, h2 => by
    rw [rbL] at h1 h2
    have hn := cmpF_neg a b
    by_cases e : cmpF a b = 0
    · rw [if_pos e] at h1
      rw [if_pos (by omega)] at h2
      rw [cmpF_zero.1 e, rbL_total h1 h2]
    · rw [if_neg e] at h1
      rw [if_neg (by omega)] at h2
      have := of_decide_eq_false h1
      have := of_decide_eq_false h2
      omega
theorem rb_irrefl (c : Cut) : rb c c = false := by unfold rb; rw [if_pos rfl]; exact rbL_irrefl _
theorem rb_trans {a b c : Cut} (h1 : rb a b = true) (h2 : rb b c = true) : rb a c = true := by
  unfold rb at *
  by_cases e1 : a.2 = b.2
  · rw [if_pos e1] at h1
    by_cases e2 : b.2 = c.2
    · rw [if_pos e2] at h2
      rw [if_pos (e1.trans e2)]
      exact rbL_trans h1 h2
    · rw [if_neg e2] at h2
      rw [if_neg (fun e => e2 (e1.symm.trans e)), e1]
      exact h2
  · rw [if_neg e1] at h1
    by_cases e2 : b.2 = c.2
    · rw [if_neg (fun e => e1 (e.trans e2.symm)), ← e2]
      exact h1
    · rw [if_neg e2] at h2
      have h3 := of_decide_eq_true h1
      have h4 := of_decide_eq_true h2
      rw [if_neg (by omega)]
      simp; omega
theorem rb_total {a b : Cut} (h1 : rb a b = false) (h2 : rb b a = false) : a = b := by
  unfold rb at *
  by_cases e : a.2 = b.2
  · rw [if_pos e] at h1
    rw [if_pos e.symm] at h2
    exact Prod.ext (rbL_total h1 h2) e
  · rw [if_neg e] at h1
    rw [if_neg (fun q => e q.symm)] at h2
    have := of_decide_eq_false h1
    have := of_decide_eq_false h2
    omega
theorem rb_asymm {a b : Cut} (h : rb a b = true) : rb b a = false := by
  cases hb : rb b a
  · rfl
  · have := rb_trans h hb
    rw [rb_irrefl] at this
    cases this
/-- one more into a list in order, behind those that are equal -/
def insC : List Cut → Cut → List Cut
  | [], t => [t]
  | y :: r, t => if rb t y then t :: y :: r else y :: insC r t
def putC (most : Nat) (l : List Cut) (t : Cut) : List Cut := (insC l t).take most
theorem insC_take : ∀ (k : Nat) (l : List Cut) (t : Cut), (insC (l.take k) t).take k = (insC l t).take k
  | 0, _, _ => by simp
  | k + 1, [], t => by simp
  | k + 1, y :: r, t => by
    rw [List.take_succ_cons, insC, insC]
    by_cases h : rb t y = true
    · rw [if_pos h, if_pos h, List.take_succ_cons, List.take_succ_cons]
      cases k with
      | zero => simp
      | succ k => rw [List.take_succ_cons, List.take_succ_cons, List.take_take]; simp
    · rw [if_neg h, if_neg h, List.take_succ_cons, List.take_succ_cons, insC_take k r t]
theorem foldl_putC (most : Nat) : ∀ (L : List Cut) (l : List Cut), L.foldl (putC most) (l.take most) = (L.foldl insC l).take most
  | [], _ => rfl
  | t :: r, l => by
    rw [List.foldl_cons, List.foldl_cons, ← foldl_putC most r (insC l t)]
    congr 1
    exact insC_take most l t
/-- in order -/
def Asc (l : List Cut) : Prop := l.Pairwise fun a b => rb b a = false
theorem insC_mem : ∀ {l : List Cut} {t y : Cut}, y ∈ insC l t ↔ y = t ∨ y ∈ l
  | [], t, y => by simp [insC]
  | z :: r, t, y => by
    unfold insC
    split
    · simp
    · rw [List.mem_cons, insC_mem, List.mem_cons]
      constructor
      · rintro (h | h | h)
        · exact .inr (.inl h)
        · exact .inl h
        · exact .inr (.inr h)
      · rintro (h | h | h)
        · exact .inr (.inl h)
        · exact .inl h
        · exact .inr (.inr h)
theorem insC_asc : ∀ {l : List Cut} {t : Cut}, Asc l → Asc (insC l t)
  | [], t, _ => List.pairwise_singleton _ _
  | z :: r, t, h => by
    unfold insC
    obtain ⟨h1, h2⟩ := List.pairwise_cons.1 h
    split
    · rename_i hz
      refine List.pairwise_cons.2 ⟨fun y hy => ?_, h⟩
      rcases List.mem_cons.1 hy with e | e
      · rw [e]; exact rb_asymm hz
      · cases hyt : rb y t
        · rfl
        · have := rb_trans hyt hz
          rw [h1 y e] at this
          cases this
    · rename_i hz
      refine List.pairwise_cons.2 ⟨fun y hy => ?_, insC_asc h2⟩
      rcases insC_mem.1 hy with e | e
      · rw [e]; simpa using hz
      · exact h1 y e
theorem foldl_insC_asc : ∀ (L : List Cut) {l : List Cut}, Asc l → Asc (L.foldl insC l)
  | [], _, h => h
  | _ :: r, _, h => foldl_insC_asc r (insC_asc h)
theorem insC_perm : ∀ (l : List Cut) (t : Cut), (insC l t).Perm (t :: l)
  | [], _ => .refl _
  | z :: r, t => by
    unfold insC
    split
    · exact .refl _
    · exact ((insC_perm r t).cons z).trans (.swap t z r)
theorem foldl_insC_perm : ∀ (L l : List Cut), (L.foldl insC l).Perm (L ++ l)
  | [], l => .refl _
  | t :: r, l => by
    rw [List.foldl_cons]
    refine (foldl_insC_perm r (insC l t)).trans ?_
    refine ((insC_perm l t).append_left r).trans ?_
    exact List.perm_middle
theorem asc_unique : ∀ {a b : List Cut}, Asc a → Asc b → a.Perm b → a = b
  | [], b, _, _, h => (List.nil_perm.1 h).symm
  | x :: a, [], _, _, h => by
    have := h.length_eq
    simp at this
  | x :: a, y :: b, ha, hb, h => by
    obtain ⟨ha1, ha2⟩ := List.pairwise_cons.1 ha
    obtain ⟨hb1, hb2⟩ := List.pairwise_cons.1 hb
    have e : x = y := by
      have hx : x ∈ y :: b := h.mem_iff.1 (by simp)
      have hy : y ∈ x :: a := h.mem_iff.2 (by simp)
      rcases List.mem_cons.1 hx with e | hx
      · exact e
      · rcases List.mem_cons.1 hy with e | hy
        · exact e.symm
        · exact rb_total (hb1 x hx) (ha1 y hy) |> fun e => e
    subst e
    rw [asc_unique ha2 hb2 (List.Perm.cons_inv h)]
/-- the order in which cuts are put in does not count -/
theorem put_law {most : Nat} {L M : List Cut} (h : L.Perm M) : L.foldl (putC most) [] = M.foldl (putC most) [] := by
  have e1 := foldl_putC most L []
  have e2 := foldl_putC most M []
  rw [List.take_nil] at e1 e2
  rw [e1, e2]
  congr 1
  refine asc_unique (foldl_insC_asc L List.Pairwise.nil) (foldl_insC_asc M List.Pairwise.nil) ?_
  refine (foldl_insC_perm L []).trans (.trans ?_ (foldl_insC_perm M []).symm)
  simpa using h
end Lx
