/- The tables of cuts, of both: plain law. -/
import Derived.Test.YtpmfjndbckblfaaDoorMgRankPlain
import Derived.Test.YtpmfjndbckblfaaDoorMgWaysPlain
namespace Lx
def cutOf (t : Tail) : Cut := (t.map (·.2), tw t)
/-- one more into the tails in order -/
def insT : List Tail → Tail → List Tail
  | [], t => [t]
  | y :: r, t => if rb (cutOf t) (cutOf y) then t :: y :: r else y :: insT r t
def putT (most : Nat) (l : List Tail) (t : Tail) : List Tail := (insT l t).take most
theorem insT_mem : ∀ {l : List Tail} {t y : Tail}, y ∈ insT l t → y = t ∨ y ∈ l
  | [], t, y, h => by simp [insT] at h; exact .inl h
  | z :: r, t, y, h => by
    unfold insT at h
    split at h
    · simpa using h
    · rcases List.mem_cons.1 h with h | h
      · exact .inr (by simp [h])
      · rcases insT_mem h with h | h
        · exact .inl h
        · exact .inr (by simp [h])
theorem putT_mem {most : Nat} {l : List Tail} {t y : Tail} (h : y ∈ putT most l t) : y = t ∨ y ∈ l := insT_mem (List.mem_of_mem_take h)
theorem putT_len {most : Nat} (hm : most ≤ 64) (l : List Tail) (t : Tail) : (putT most l t).length ≤ 64 := by
  unfold putT
  rw [List.length_take]
  omega
theorem map_insT : ∀ (l : List Tail) (t : Tail), (insT l t).map cutOf = insC (l.map cutOf) (cutOf t)
  | [], t => rfl
  | y :: r, t => by
    rw [insT, List.map_cons, insC]
    split
    · rfl
    · rw [List.map_cons, map_insT r t]
theorem map_putT (most : Nat) (l : List Tail) (t : Tail) : (putT most l t).map cutOf = putC most (l.map cutOf) (cutOf t) := by
  unfold putT putC
  rw [List.map_take, map_insT]
theorem map_foldl {α β γ : Type} (f : α → γ → α) (g : β → γ → β) (h : α → β) (hh : ∀ a c, h (f a c) = g (h a) c) : ∀ (l : List γ) (a : α), h (l.foldl f a) = l.foldl g (h a)
  | [], _ => rfl
  | c :: r, a => by rw [List.foldl_cons, List.foldl_cons, map_foldl f g h hh r, hh]
/-- a form ahead of a cut -/
def pushC (x : Lexicon) (f : Form) (c : Cut) : Cut := (f :: c.1, heavyV x f + c.2)
theorem cutOf_push (x : Lexicon) (m : Match) (t : Tail) : cutOf (push x m t) = pushC x m.form (cutOf t) := rfl
/-- the table of the reference -/
def rtabT (x : Lexicon) (most : Nat) (forms : Nat → Nat → List Form) (n : Nat) : Nat → Nat → List Cut
  | 0 => fun j => if j = n then [([], 0)] else []
  | k + 1 => fun j => if j = n - (k + 1) then ((nxt n (n - (k + 1))).flatMap fun t => (forms (n - (k + 1)) t).flatMap fun f => (rtabT x most forms n k t).map (pushC x f)).foldl (putC most) [] else rtabT x most forms n k j
theorem foldl_flatMap' {α β γ : Type} (f : γ → β → γ) (g : α → List β) : ∀ (l : List α) (a : γ), (l.flatMap g).foldl f a = l.foldl (fun a x => (g x).foldl f a) a
  | [], _ => rfl
  | x :: r, a => by rw [List.flatMap_cons, List.foldl_append, List.foldl_cons, foldl_flatMap' f g r]
theorem foldl_map' {α β γ : Type} (f : γ → β → γ) (g : α → β) : ∀ (l : List α) (a : γ), (l.map g).foldl f a = l.foldl (fun a x => f a (g x)) a
  | [], _ => rfl
  | x :: r, a => by rw [List.map_cons, List.foldl_cons, List.foldl_cons, foldl_map' f g r]
theorem map_addMs {x : Lexicon} {most : Nat} {tab : Nat → List Tail} {i : Nat} (ms : List Match) : (addMs x (putT most) tab i ms []).map cutOf = (ms.flatMap fun m => ((tab (i + m.long)).map cutOf).map (pushC x m.form)).foldl (putC most) [] := by
  unfold addMs
  rw [foldl_flatMap']
  refine map_foldl (fun l (m : Match) => addNexts x (putT most) m (tab (i + m.long)) l) (fun (a : List Cut) (m : Match) => (((tab (i + m.long)).map cutOf).map (pushC x m.form)).foldl (putC most) a) (fun l => l.map cutOf) (fun a m => ?_) ms []
  unfold addNexts
  rw [foldl_map', foldl_map']
  refine map_foldl (fun l (t : Tail) => putT most l (push x m t)) (fun (a : List Cut) (t : Tail) => putC most a (pushC x m.form (cutOf t))) (fun l => l.map cutOf) (fun a t => ?_) _ a
  show (putT most a (push x m t)).map cutOf = _
  rw [map_putT, cutOf_push]
theorem flatMap_append_perm {α β : Type} (f g : α → List β) : ∀ l : List α, (l.flatMap fun a => f a ++ g a).Perm (l.flatMap f ++ l.flatMap g)
  | [] => .refl _
  | a :: r => by
    rw [List.flatMap_cons, List.flatMap_cons, List.flatMap_cons]
    refine ((flatMap_append_perm f g r).append_left (f a ++ g a)).trans ?_
    rw [List.append_assoc, List.append_assoc]
    refine List.Perm.append_left (f a) ?_
    rw [← List.append_assoc, ← List.append_assoc]
    exact List.Perm.append_right _ List.perm_append_comm
theorem flatMap_one {β : Type} (L : List β) (v : Nat) : ∀ l : List Nat, l.Nodup → v ∈ l → (l.flatMap fun t => if v = t then L else []) = L
  | [], _, h => by simp at h
  | t :: r, hn, h => by
    obtain ⟨h1, h2⟩ := List.nodup_cons.1 hn
    rw [List.flatMap_cons]
    by_cases e : v = t
    · subst e
      rw [if_pos rfl]
      have : (r.flatMap fun t => if v = t then L else []) = [] := by
        rw [List.flatMap_eq_nil_iff]
        intro t ht
        rw [if_neg (fun e => h1 (by rw [e]; exact ht))]
      rw [this, List.append_nil]
    · rw [if_neg e, List.nil_append]
      exact flatMap_one L v r h2 (by simpa [e] using h)
/-- match by match, or end by end: the same up toq the order -/
theorem by_ends {β : Type} (g : Form → Nat → List β) (n i : Nat) : ∀ ms : List Match, (∀ m ∈ ms, 1 ≤ m.long ∧ m.long ≤ n - i ∧ m.long ≤ 24) →
    (ms.flatMap fun m => g m.form (i + m.long)).Perm ((nxt n i).flatMap fun t => (withK ms (t - i)).flatMap fun f => g f t)
  | [], _ => by
    have : ((nxt n i).flatMap fun t => (withK [] (t - i)).flatMap fun f => g f t) = [] := by
      rw [List.flatMap_eq_nil_iff]
      intro t _
      rfl
    rw [this]
    exact .refl _
  | m :: r, h => by
    have hm := h m (by simp)
    have ih := by_ends g n i r (fun m' hm' => h m' (by simp [hm']))
    have e : ((nxt n i).flatMap fun t => (withK (m :: r) (t - i)).flatMap fun f => g f t) = (nxt n i).flatMap fun t => (if i + m.long = t then g m.form (i + m.long) else []) ++ (withK r (t - i)).flatMap fun f => g f t := by
      rw [List.flatMap_def, List.flatMap_def]
      congr 1
      refine List.map_congr_left fun t ht => ?_
      unfold nxt at ht
      rw [List.mem_range'_1] at ht
      rw [withK_cons, List.flatMap_append]
      congr 1
      by_cases hl : m.long = t - i
      · rw [if_pos hl, if_pos (by omega), show i + m.long = t by omega]
        simp
      · rw [if_neg hl, if_neg (by omega)]
        rfl
    rw [e, List.flatMap_cons]
    refine .trans ?_ (flatMap_append_perm _ _ _).symm
    rw [flatMap_one _ _ _ (by unfold nxt; exact List.nodup_range') (by unfold nxt; rw [List.mem_range'_1]; omega)]
    exact ih.append_left _
theorem tab_law {x : Lexicon} {most : Nat} {ats : Nat → List Match} {forms : Nat → Nat → List Form} {n : Nat} (hat : ∀ i, i < n → ∀ m ∈ ats i, 1 ≤ m.long ∧ m.long ≤ n - i ∧ m.long ≤ 24) (hf : ∀ i t, i < t → t ≤ n → forms i t = withK (ats i) (t - i)) :
    ∀ k, k ≤ n → ∀ j, (tabT x (putT most) ats n k j).map cutOf = rtabT x most forms n k j := by
  intro k
  induction k with
  | zero =>
    intro _ j
    unfold tabT rtabT
    split <;> rfl
  | succ k ih =>
    intro hk j
    unfold tabT rtabT
    by_cases hj : j = n - (k + 1)
    · have hi : n - (k + 1) < n := by omega
      simp only [if_pos hj]
      rw [map_addMs]
      have e1 : (fun m : Match => ((tabT x (putT most) ats n k (n - (k + 1) + m.long)).map cutOf).map (pushC x m.form)) = fun m => (fun (f : Form) (t : Nat) => (rtabT x most forms n k t).map (pushC x f)) m.form (n - (k + 1) + m.long) := funext fun m => by rw [ih (by omega)]
      rw [e1, put_law (by_ends (fun (f : Form) (t : Nat) => (rtabT x most forms n k t).map (pushC x f)) n (n - (k + 1)) _ (hat _ hi))]
      congr 1
      rw [List.flatMap_def, List.flatMap_def]
      congr 1
      refine List.map_congr_left fun t ht => ?_
      unfold nxt at ht
      rw [List.mem_range'_1] at ht
      rw [hf _ _ (by omega) (by omega)]
    · simp only [if_neg hj]
      exact ih (by omega) j
end Lx
