/- The tables of cuts, of both: plain law. How the program compares tails of one place: plain law. -/
import Derived.Test.YtpmnpnlfgfleeaaGreatDoorMgWithPlain
import Derived.Test.YtpmnpnlfgfleeaaGreatDoorMgWaysPlain
import Derived.Lib.Small
namespace Lx
def cutOf (t : Tail) : Cut := (t.map (·.2), tw t)
/-- one more into the tails in order -/
def insT : List Tail → Tail → List Tail
  | [], t => [t]
  | y :: r, t => if rb (cutOf t) (cutOf y) then t :: y :: r else y :: insT r t
def putT (most : Nat) (l : List Tail) (t : Tail) : List Tail := (insT l t).take most
theorem insT_mem : ∀ {l : List Tail} {t y : Tail}, y ∈ insT l t → y = t ∨ y ∈ l
  | [], t, y, h => by simp [insT] at h; exact .inl h
  | z :: r, t, y, h => by
    unfold insT at h
    split at h
    · simpa using h
    · rcases List.mem_cons.1 h with h | h
      · exact .inr (by simp [h])
      · rcases insT_mem h with h | h
        · exact .inl h
        · exact .inr (by simp [h])
theorem putT_mem {most : Nat} {l : List Tail} {t y : Tail} (h : y ∈ putT most l t) : y = t ∨ y ∈ l := insT_mem (List.mem_of_mem_take h)
theorem putT_len {most : Nat} (hm : most ≤ 64) (l : List Tail) (t : Tail) : (putT most l t).length ≤ 64 := by
  unfold putT
  rw [List.length_take]
  omega
theorem map_insT : ∀ (l : List Tail) (t : Tail), (insT l t).map cutOf = insC (l.map cutOf) (cutOf t)
  | [], t => rfl
  | y :: r, t => by
    rw [insT, List.map_cons, insC]
    split
    · rfl
    · rw [List.map_cons, map_insT r t]
theorem map_putT (most : Nat) (l : List Tail) (t : Tail) : (putT most l t).map cutOf = putC most (l.map cutOf) (cutOf t) := by
  unfold putT putC
  rw [List.map_take, map_insT]
theorem map_foldl {α β γ : Type} (f : α → γ → α) (g : β → γ → β) (h : α → β) (hh : ∀ a c, h (f a c) = g (h a) c) : ∀ (l : List γ) (a : α), h (l.foldl f a) = l.foldl g (h a)
  | [], _ => rfl
  | c :: r, a => by rw [List.foldl_cons, List.foldl_cons, map_foldl f g h hh r, hh]
/-- a form ahead of a cut -/
def pushC (x : Lexicon) (f : Form) (c : Cut) : Cut := (f :: c.1, heavyV x f + c.2)
theorem cutOf_push (x : Lexicon) (m : Match) (t : Tail) : cutOf (push x m t) = pushC x m.form (cutOf t) := rfl
/-- the table of the reference -/
def rtabT (x : Lexicon) (most : Nat) (forms : Nat → Nat → List Form) (n : Nat) : Nat → Nat → List Cut
  | 0 => fun j => if j = n then [([], 0)] else []
  | k + 1 => fun j => if j = n - (k + 1) then ((nxt n (n - (k + 1))).flatMap fun t => (forms (n - (k + 1)) t).flatMap fun f => (rtabT x most forms n k t).map (pushC x f)).foldl (putC most) [] else rtabT x most forms n k j
theorem foldl_flatMap' {α β γ : Type} (f : γ → β → γ) (g : α → List β) : ∀ (l : List α) (a : γ), (l.flatMap g).foldl f a = l.foldl (fun a x => (g x).foldl f a) a
  | [], _ => rfl
  | x :: r, a => by rw [List.flatMap_cons, List.foldl_append, List.foldl_cons, foldl_flatMap' f g r]
theorem foldl_map' {α β γ : Type} (f : γ → β → γ) (g : α → β) : ∀ (l : List α) (a : γ), (l.map g).foldl f a = l.foldl (fun a x => f a (g x)) a
  | [], _ => rfl
  | x :: r, a => by rw [List.map_cons, List.foldl_cons, List.foldl_cons, foldl_map' f g r]
theorem map_addMs {x : Lexicon} {most : Nat} {tab : Nat → List Tail} {i : Nat} (ms : List Match) : (addMs x (putT most) tab i ms []).map cutOf = (ms.flatMap fun m => ((tab (i + m.long)).map cutOf).map (pushC x m.form)).foldl (putC most) [] := by
  unfold addMs
  rw [foldl_flatMap']
  refine map_foldl (fun l (m : Match) => addNexts x (putT most) m (tab (i + m.long)) l) (fun (a : List Cut) (m : Match) => (((tab (i + m.long)).map cutOf).map (pushC x m.form)).foldl (putC most) a) (fun l => l.map cutOf) (fun a m => ?_) ms []
  unfold addNexts
  rw [foldl_map', foldl_map']
  refine map_foldl (fun l (t : Tail) => putT most l (push x m t)) (fun (a : List Cut) (t : Tail) => putC most a (pushC x m.form (cutOf t))) (fun l => l.map cutOf) (fun a t => ?_) _ a
  show (putT most a (push x m t)).map cutOf = _
  rw [map_putT, cutOf_push]
theorem flatMap_append_perm {α β : Type} (f g : α → List β) : ∀ l : List α, (l.flatMap fun a => f a ++ g a).Perm (l.flatMap f ++ l.flatMap g)
  | [] => .refl _
  | a :: r => by
    rw [List.flatMap_cons, List.flatMap_cons, List.flatMap_cons]
    refine ((flatMap_append_perm f g r).append_left (f a ++ g a)).trans ?_
    rw [List.append_assoc, List.append_assoc]
    refine List.Perm.append_left (f a) ?_
    rw [← List.append_assoc, ← List.append_assoc]
    exact List.Perm.append_right _ List.perm_append_comm
theorem flatMap_one {β : Type} (L : List β) (v : Nat) : ∀ l : List Nat, l.Nodup → v ∈ l → (l.flatMap fun t => if v = t then L else []) = L
  | [], _, h => by simp at h
  | t :: r, hn, h => by
    obtain ⟨h1, h2⟩ := List.nodup_cons.1 hn
    rw [List.flatMap_cons]
    by_cases e : v = t
    · subst e
      rw [if_pos rfl]
      have : (r.flatMap fun t => if v = t then L else []) = [] := by
        rw [List.flatMap_eq_nil_iff]
        intro t ht
        rw [if_neg (fun e => h1 (by rw [e]; exact ht))]
      rw [this, List.append_nil]
    · rw [if_neg e, List.nil_append]
      exact flatMap_one L v r h2 (by simpa [e] using h)
/-- match by match, or end by end: the same up toq the order -/
theorem by_ends {β : Type} (g : Form → Nat → List β) (n i : Nat) : ∀ ms : List Match, (∀ m ∈ ms, 1 ≤ m.long ∧ m.long ≤ n - i ∧ m.long ≤ 24) →
    (ms.flatMap fun m => g m.form (i + m.long)).Perm ((nxt n i).flatMap fun t => (withK ms (t - i)).flatMap fun f => g f t)
  | [], _ => by
    have : ((nxt n i).flatMap fun t => (withK [] (t - i)).flatMap fun f => g f t) = [] := by
      rw [List.flatMap_eq_nil_iff]
      intro t _
      rfl
    rw [this]
    exact .refl _
  | m :: r, h => by
    have hm := h m (by simp)
    have ih := by_ends g n i r (fun m' hm' => h m' (by simp [hm']))
    have e : ((nxt n i).flatMap fun t => (withK (m :: r) (t - i)).flatMap fun f => g f t) = (nxt n i).flatMap fun t => (if i + m.long = t then g m.form (i + m.long) else []) ++ (withK r (t - i)).flatMap fun f => g f t := by
      rw [List.flatMap_def, List.flatMap_def]
      congr 1
      refine List.map_congr_left fun t ht => ?_
      unfold nxt at ht
      rw [List.mem_range'_1] at ht
      rw [withK_cons, List.flatMap_append]
      congr 1
      by_cases hl : m.long = t - i
      · rw [if_pos hl, if_pos (by omega), show i + m.long = t by omega]
        simp
      · rw [if_neg hl, if_neg (by omega)]
        rfl
    rw [e, List.flatMap_cons]
    refine .trans ?_ (flatMap_append_perm _ _ _).symm
    rw [flatMap_one _ _ _ (by unfold nxt; exact List.nodup_range') (by unfold nxt; rw [List.mem_range'_1]; omega)]
    exact ih.append_left _
theorem tab_law {x : Lexicon} {most : Nat} {ats : Nat → List Match} {forms : Nat → Nat → List Form} {n : Nat} (hat : ∀ i, i < n → ∀ m ∈ ats i, 1 ≤ m.long ∧ m.long ≤ n - i ∧ m.long ≤ 24) (hf : ∀ i t, i < t → t ≤ n → forms i t = withK (ats i) (t - i)) :
    ∀ k, k ≤ n → ∀ j, (tabT x (putT most) ats n k j).map cutOf = rtabT x most forms n k j := by
  intro k
  induction k with
  | zero =>
    intro _ j
    unfold tabT rtabT
    split <;> rfl
  | succ k ih =>
    intro hk j
    unfold tabT rtabT
    by_cases hj : j = n - (k + 1)
    · have hi : n - (k + 1) < n := by omega
      simp only [if_pos hj]
      rw [map_addMs]
      have e1 : (fun m : Match => ((tabT x (putT most) ats n k (n - (k + 1) + m.long)).map cutOf).map (pushC x m.form)) = fun m => (fun (f : Form) (t : Nat) => (rtabT x most forms n k t).map (pushC x f)) m.form (n - (k + 1) + m.long) := funext fun m => by rw [ih (by omega)]
      rw [e1, put_law (by_ends (fun (f : Form) (t : Nat) => (rtabT x most forms n k t).map (pushC x f)) n (n - (k + 1)) _ (hat _ hi))]
      congr 1
      rw [List.flatMap_def, List.flatMap_def]
      congr 1
      refine List.map_congr_left fun t ht => ?_
      unfold nxt at ht
      rw [List.mem_range'_1] at ht
      rw [hf _ _ (by omega) (by omega)]
    · simp only [if_neg hj]
      exact ih (by omega) j
end Lx
namespace Lx
open Go
def slC : List Int → List Int → Int
  | [], [] => 0
  | [], _ :: _ => -1
  | _ :: _, [] => 1
  | a :: asq, b :: bs => if Lib.compareInt a b = 0 then slC asq bs else Lib.compareInt a b
def or3 (a b c : Int) : Int := if a ≠ 0 then a else if b ≠ 0 then b else c
def fC (a b : Form) : Int := or3 (Lib.compareInt a.entry b.entry) (Lib.compareInt a.ending b.ending) (slC a.clitics b.clitics)
theorem cmpInt_zero {a b : Int} : Lib.compareInt a b = 0 ↔ a = b := by
  unfold Lib.compareInt
  split
  · simp; omega
  · split
    · simp; omega
    · simp; omega
theorem slC_sign : ∀ asq bs, slC asq bs = Lib.compareInt (cmpL asq bs) 0
  | [], [] => rfl
  | [], b :: bs => by unfold slC cmpL Lib.compareInt; rw [if_pos (by simp)]
  | a :: asq, [] => by unfold slC cmpL Lib.compareInt; rw [if_neg (by simp; omega), if_pos (by simp)]
  | a :: asq, b :: bs => by
    rw [slC, cmpL]
    by_cases h : a = b
    · rw [if_pos (cmpInt_zero.2 h), if_pos h]
      exact slC_sign asq bs
    · rw [if_neg (fun e => h (cmpInt_zero.1 e)), if_neg h]
      unfold Lib.compareInt
      by_cases h2 : a < b
      · rw [if_pos h2, if_pos (by omega)]
      · rw [if_neg h2, if_pos (by omega), if_neg (by omega), if_pos (by omega)]
theorem fC_sign (a b : Form) : fC a b = Lib.compareInt (cmpF a b) 0 := by
  unfold fC or3 cmpF
  have key : ∀ p q : Int, p ≠ q → Lib.compareInt p q = Lib.compareInt (p - q) 0 := fun p q h => by
    unfold Lib.compareInt
    by_cases h2 : p < q
    · rw [if_pos h2, if_pos (by omega)]
    · rw [if_neg h2, if_pos (by omega), if_neg (by omega), if_pos (by omega)]
  by_cases h : a.entry = b.entry
  · rw [if_neg (by simp [cmpInt_zero, h]), if_pos h]
    by_cases h2 : a.ending = b.ending
    · rw [if_neg (by simp [cmpInt_zero, h2]), if_pos h2]
      exact slC_sign _ _
    · rw [if_pos (by simp [cmpInt_zero, h2]), if_neg h2]
      exact key _ _ h2
  · rw [if_pos (by simp [cmpInt_zero, h]), if_neg h]
    exact key _ _ h
def fsC : List Form → List Form → Int
  | a :: asq, b :: bs => if fC a b = 0 then fsC asq bs else fC a b
  | [], _ => 0
  | _ :: _, [] => 0
def tC (a b : Tail) : Int := if Lib.compareInt (tw a) (tw b) = 0 then fsC (a.map (·.2)) (b.map (·.2)) else Lib.compareInt (tw a) (tw b)
/-- how many sounds a form has -/
def clen (x : Lexicon) (c : Int) : Nat := match x.clitics[c.toNat]? with
  | some g => g.text.size
  | none => 0
def flen (x : Lexicon) (f : Form) : Nat := (stemV x ⟨f.entry, f.ending, []⟩).size + (f.clitics.map (clen x)).sum
def fslen (x : Lexicon) (l : List Form) : Nat := (l.map (flen x)).sum
theorem leanF_len' {x : Lexicon} {s : ByteArray} : ∀ (fuel : Nat) (m : Match) (first : Nat), m.long = flen x m.form → ∀ m' ∈ leanF x s fuel m first, m'.long = flen x m'.form
  | 0, m, first, h, m', hm => by simp [leanF] at hm; subst hm; exact h
  | fuel + 1, m, first, h, m', hm => by
    unfold leanF at hm
    rw [List.mem_cons] at hm
    rcases hm with rfl | hm
    · exact h
    · split at hm
      · simp at hm
      · rw [List.mem_flatMap] at hm
        obtain ⟨c, _, hm⟩ := hm
        split at hm
        · rename_i g hg
          split at hm
          · refine leanF_len' fuel _ _ ?_ m' hm
            show m.long + g.text.size = flen x ⟨m.entry, m.ending, m.clitics ++ [(c : Int)]⟩
            rw [h]
            unfold flen
            simp only [Match.form, List.map_append, List.sum_append, List.map_cons, List.map_nil, List.sum_cons, List.sum_nil]
            have : clen x (c : Int) = g.text.size := by unfold clen; simp [hg]
            omega
          · simp at hm
        · simp at hm
theorem matchesV_flen {x : Lexicon} {s : ByteArray} : ∀ m ∈ matchesV x s, m.long = flen x m.form := by
  intro m hm
  unfold matchesV matchesN at hm
  rw [List.mem_flatMap] at hm
  obtain ⟨i, hi, hm⟩ := hm
  unfold matchesE at hm
  split at hm
  · split at hm
    · unfold matchesTo at hm
      rw [List.mem_flatMap] at hm
      obtain ⟨q, hq, hm⟩ := hm
      unfold matchesQ at hm
      split at hm
      · simp at hm
      · split at hm
        · refine leanF_len' _ _ _ ?_ m hm
          unfold flen
          simp [Match.form]
        · simp at hm
    · simp at hm
  · simp at hm
theorem flen_pos {x : Lexicon} {f : Form} (hc : checkV x = 0) (hf : Fits x f) : 1 ≤ flen x f := by
  obtain ⟨_, h1, h2, _⟩ := check_parts hc
  obtain ⟨he0, he1⟩ := hf.ent
  obtain ⟨e, he⟩ : ∃ e, x.entries[f.entry.toNat]? = some e := ⟨_, List.getElem?_eq_getElem (by omega)⟩
  have he1 := (ok_entry (good_at h1 he)).1
  unfold flen
  have : 1 ≤ (stemV x ⟨f.entry, f.ending, []⟩).size := by
    unfold stemV
    simp only [he]
    split
    · exact he1
    · split
      · rw [ByteArray.size_append]; omega
      · exact he1
  omega
/-- of one place: asq long, and no form is empty -/
structure Alike (x : Lexicon) (asq bs : List Form) : Prop where
  len : fslen x asq = fslen x bs
  pa : ∀ f ∈ asq, 1 ≤ flen x f
  pb : ∀ f ∈ bs, 1 ≤ flen x f
theorem fsC_rb {x : Lexicon} : ∀ {asq bs : List Form}, Alike x asq bs → rbL asq bs = decide (fsC asq bs < 0) ∧ rbL bs asq = decide (0 < fsC asq bs)
  | [], [], _ => by simp [rbL, fsC]
  | [], b :: bs, h => by
    have h1 := h.len
    have h2 := h.pb b (by simp)
    simp [fslen] at h1
    omega
  | a :: asq, [], h => by
    have h1 := h.len
    have h2 := h.pa a (by simp)
    simp [fslen] at h1
    omega
  | a :: asq, b :: bs, h => by
    have hn := cmpF_neg a b
    rw [rbL, rbL, fsC, fC_sign]
    by_cases e : cmpF a b = 0
    · have e' := cmpF_zero.1 e
      subst e'
      rw [if_pos e, if_pos e, if_pos (by rw [e]; rfl)]
      refine fsC_rb ⟨?_, fun f hf => h.pa f (by simp [hf]), fun f hf => h.pb f (by simp [hf])⟩
      have := h.len
      simp only [fslen, List.map_cons, List.sum_cons] at this ⊢
      omega
    · rw [if_neg e, if_neg (show ¬ cmpF b a = 0 by omega), if_neg (fun q => e (cmpInt_zero.1 q))]
      unfold Lib.compareInt
      by_cases h2 : cmpF a b < 0
      · rw [if_pos h2]
        simp [h2]; omega
      · rw [if_neg h2, if_pos (by omega)]
        simp [h2]; omega
theorem tC_rb {x : Lexicon} {a b : Tail} (h : Alike x (a.map (·.2)) (b.map (·.2))) : rb (cutOf b) (cutOf a) = decide (0 < tC a b) := by
  unfold rb tC cutOf
  simp only
  by_cases e : tw a = tw b
  · rw [if_pos e.symm, if_pos (cmpInt_zero.2 e)]
    exact (fsC_rb h).2
  · rw [if_neg (fun q => e q.symm), if_neg (fun q => e (cmpInt_zero.1 q))]
    unfold Lib.compareInt
    by_cases h2 : tw a < tw b
    · rw [if_pos h2]
      simp; omega
    · rw [if_neg h2, if_pos (by omega)]
      simp; omega
/-- where one more goes -/
theorem insT_at : ∀ {l : List Tail} {t : Tail} {i : Nat}, i ≤ l.length → (∀ j y, j < i → l[j]? = some y → rb (cutOf t) (cutOf y) = false) → (∀ y, l[i]? = some y → rb (cutOf t) (cutOf y) = true) → insT l t = l.take i ++ t :: l.drop i
  | [], t, i, hi, _, _ => by simp at hi; subst hi; rfl
  | z :: r, t, 0, _, _, h => by
    rw [insT, if_pos (h z rfl)]
    rfl
  | z :: r, t, i + 1, hi, h1, h2 => by
    rw [insT, if_neg (by rw [h1 0 z (by omega) rfl]; simp), insT_at (i := i) (by simpa using hi) (fun j y hj hy => h1 (j + 1) y (by omega) (by simpa using hy)) (fun y hy => h2 y (by simpa using hy))]
    rfl
/-- in order, one after the other -/
def AscT (l : List Tail) : Prop := Asc (l.map cutOf)
theorem ascT_at {l : List Tail} (h : AscT l) {j k : Nat} {y z : Tail} (hjk : j < k) (hy : l[j]? = some y) (hz : l[k]? = some z) : rb (cutOf z) (cutOf y) = false := by
  unfold AscT Asc at h
  rw [List.pairwise_iff_getElem] at h
  obtain ⟨h1, rfl⟩ := List.getElem?_eq_some_iff.1 hy
  obtain ⟨h2, rfl⟩ := List.getElem?_eq_some_iff.1 hz
  have := h j k (by simpa using h1) (by simpa using h2) hjk
  simpa using this
theorem up_of {l : List Tail} (h : AscT l) {t : Tail} {j k : Nat} {y z : Tail} (hjk : j ≤ k) (hy : l[j]? = some y) (hz : l[k]? = some z) (ht : rb (cutOf t) (cutOf y) = true) : rb (cutOf t) (cutOf z) = true := by
  rcases Nat.lt_or_eq_of_le hjk with h1 | h1
  · have h2 := ascT_at h h1 hy hz
    cases h3 : rb (cutOf t) (cutOf z)
    · cases h4 : rb (cutOf z) (cutOf t)
      · rw [rb_total h3 h4] at ht
        rw [ht] at h2
        cases h2
      · have := rb_trans h4 ht
        rw [h2] at this
        cases this
    · rfl
  · subst h1
    rw [hy] at hz
    cases hz
    exact ht
theorem insT_asc {l : List Tail} {t : Tail} (h : AscT l) : AscT (insT l t) := by
  unfold AscT
  rw [map_insT]
  exact insC_asc h
theorem putT_asc {most : Nat} {l : List Tail} {t : Tail} (h : AscT l) : AscT (putT most l t) := by
  have := insT_asc (t := t) h
  unfold AscT Asc at *
  unfold putT
  rw [List.map_take]
  exact this.sublist (List.take_sublist _ _)
theorem addNexts_inv {x : Lexicon} {most : Nat} {m : Match} {P : Tail → Prop} {nexts : List Tail} {l : List Tail} (hl : AscT l ∧ ∀ y ∈ l, P y) (hn : ∀ t ∈ nexts, P (push x m t)) : AscT (addNexts x (putT most) m nexts l) ∧ ∀ y ∈ addNexts x (putT most) m nexts l, P y := by
  unfold addNexts
  refine foldl_inv (P := fun l => AscT l ∧ ∀ y ∈ l, P y) nexts l hl fun a b ha hb => ⟨putT_asc ha.1, fun y hy => ?_⟩
  rcases putT_mem hy with e | e
  · rw [e]; exact hn b hb
  · exact ha.2 y e
theorem addMs_inv {x : Lexicon} {most : Nat} {tab : Nat → List Tail} {i : Nat} {P : Tail → Prop} {ms : List Match} (hn : ∀ m ∈ ms, ∀ t ∈ tab (i + m.long), P (push x m t)) : AscT (addMs x (putT most) tab i ms []) ∧ ∀ y ∈ addMs x (putT most) tab i ms [], P y := by
  unfold addMs
  exact foldl_inv (P := fun l => AscT l ∧ ∀ y ∈ l, P y) ms [] ⟨List.Pairwise.nil, fun y hy => by cases hy⟩ fun a b ha hb => addNexts_inv ha (hn b hb)
/-- what is known of the tails of a place -/
structure Good (x : Lexicon) (n : Nat) (t : Tail) : Prop where
  len : fslen x (t.map (·.2)) = n
  pos : ∀ f ∈ t.map (·.2), 1 ≤ flen x f
theorem push_good {x : Lexicon} {m : Match} {t : Tail} {a b : Nat} (ht : Good x a t) (hm : m.long = flen x m.form) (h1 : 1 ≤ flen x m.form) (hab : b = m.long + a) : Good x b (push x m t) := by
  refine ⟨?_, fun f hf => ?_⟩
  · show fslen x (m.form :: t.map (·.2)) = b
    have := ht.len
    simp only [fslen, List.map_cons, List.sum_cons] at this ⊢
    omega
  · have hf' : f ∈ m.form :: t.map (·.2) := hf
    rcases List.mem_cons.1 hf' with e | e
    · rw [e]; exact h1
    · exact ht.pos f e
theorem tab_good {x : Lexicon} {most : Nat} {ats : Nat → List Match} {n : Nat} (hat : ∀ i, i < n → ∀ m ∈ ats i, m.long = flen x m.form ∧ 1 ≤ flen x m.form ∧ i + m.long ≤ n) : ∀ k, k ≤ n → ∀ j, j ≤ n → ∀ t ∈ tabT x (putT most) ats n k j, Good x (n - j) t
  | 0, _, j, hj, t, ht => by
    unfold tabT at ht
    split at ht
    · rename_i e
      simp at ht
      subst ht
      subst e
      exact ⟨by simp [fslen], fun f hf => by simp at hf⟩
    · simp at ht
  | k + 1, hk, j, hj, t, ht => by
    unfold tabT at ht
    split at ht
    · rename_i e
      rw [e]
      refine (addMs_inv (P := Good x (n - (n - (k + 1)))) (fun m hm t ht => ?_)).2 t ht
      have h := hat _ (by omega) m hm
      exact push_good (tab_good hat k (by omega) _ h.2.2 t ht) h.1 h.2.1 (by omega)
    · exact tab_good hat k (by omega) j hj t ht
/-- where one more is put in, all are of one place and in order -/
theorem occ_good {x : Lexicon} {most : Nat} {ats : Nat → List Match} {n : Nat} {l : List Tail} {t : Tail} (hat : ∀ i, i < n → ∀ m ∈ ats i, m.long = flen x m.form ∧ 1 ≤ flen x m.form ∧ i + m.long ≤ n) (h : Occ x (putT most) ats n l t) :
    AscT l ∧ ∀ y ∈ l, Alike x (y.map (·.2)) (t.map (·.2)) := by
  obtain ⟨k, a, b, m, nx, hk, hm, hnx, rfl, rfl⟩ := h.ex
  have hg : ∀ m ∈ ats (n - (k + 1)), ∀ t ∈ tabT x (putT most) ats n k (n - (k + 1) + m.long), Good x (k + 1) (push x m t) := fun m hm t ht => by
    have h := hat _ (by omega) m hm
    exact push_good (tab_good hat k (by omega) _ h.2.2 t ht) h.1 h.2.1 (by omega)
  have h1 := addMs_inv (x := x) (most := most) (tab := tabT x (putT most) ats n k) (i := n - (k + 1)) (P := Good x (k + 1)) (ms := (ats (n - (k + 1))).take a) (fun m hm t ht => hg m (List.mem_of_mem_take hm) t ht)
  have h2 := addNexts_inv (x := x) (most := most) (m := m) (P := Good x (k + 1)) (nexts := (tabT x (putT most) ats n k (n - (k + 1) + m.long)).take b) h1 (fun t ht => hg m (List.mem_of_getElem? hm) t (List.mem_of_mem_take ht))
  have ht := hg m (List.mem_of_getElem? hm) nx (List.mem_of_getElem? hnx)
  exact ⟨h2.1, fun y hy => ⟨(h2.2 y hy).len.trans ht.len.symm, (h2.2 y hy).pos, ht.pos⟩⟩
/-- what else is known where one more is put in -/
structure OccMore (most : Nat) (l : List Tail) (t : Tail) : Prop where
  len : l.length ≤ most
  tne : t ≠ []
  lne : ∀ y ∈ l, y ≠ []
  tfew : ∀ f ∈ t.map (·.2), f.clitics.length ≤ 3
  lfew : ∀ y ∈ l, ∀ f ∈ y.map (·.2), f.clitics.length ≤ 3
theorem addNexts_len {x : Lexicon} {most : Nat} {m : Match} {nexts : List Tail} {l : List Tail} (hl : l.length ≤ most) : (addNexts x (putT most) m nexts l).length ≤ most := by
  unfold addNexts
  refine foldl_inv (P := fun l => l.length ≤ most) nexts l hl fun a b _ _ => ?_
  show (putT most a (push x m b)).length ≤ most
  unfold putT
  rw [List.length_take]
  omega
theorem addMs_len {x : Lexicon} {most : Nat} {tab : Nat → List Tail} {i : Nat} {ms : List Match} : (addMs x (putT most) tab i ms []).length ≤ most := by
  unfold addMs
  refine foldl_inv (P := fun l : List Tail => l.length ≤ most) ms [] (show ([] : List Tail).length ≤ most from Nat.zero_le _) fun a b ha _ => ?_
  exact addNexts_len (m := b) ha
theorem occ_more {x : Lexicon} {most : Nat} {ats : Nat → List Match} {n : Nat} {l : List Tail} {t : Tail} (hat : ∀ j m, m ∈ ats j → m.clitics.length ≤ 3) (h : Occ x (putT most) ats n l t) : OccMore most l t := by
  obtain ⟨k, a, b, m, nx, hk, hm, hnx, rfl, rfl⟩ := h.ex
  have hF := tab_forms (x := x) (put := putT most) (ats := ats) (n := n) (P := fun f => f.clitics.length ≤ 3) (fun l t y h => putT_mem h) (fun j m hm => hat j m hm)
  have hP : ∀ m ∈ ats (n - (k + 1)), ∀ t ∈ tabT x (putT most) ats n k (n - (k + 1) + m.long), push x m t ≠ [] ∧ ∀ f ∈ (push x m t).map (·.2), f.clitics.length ≤ 3 := fun m hm t ht => by
    refine ⟨by simp [push], fun f hf => ?_⟩
    have hf' : f ∈ m.form :: t.map (·.2) := hf
    rcases List.mem_cons.1 hf' with e | e
    · rw [e]; exact hat _ m hm
    · obtain ⟨a, ha, rfl⟩ := List.mem_map.1 e
      exact hF k _ t ht a ha
  have h1 := addMs_inv (x := x) (most := most) (tab := tabT x (putT most) ats n k) (i := n - (k + 1)) (P := fun y => y ≠ [] ∧ ∀ f ∈ y.map (·.2), f.clitics.length ≤ 3) (ms := (ats (n - (k + 1))).take a) (fun m hm t ht => hP m (List.mem_of_mem_take hm) t ht)
  have h2 := addNexts_inv (x := x) (most := most) (m := m) (P := fun y => y ≠ [] ∧ ∀ f ∈ y.map (·.2), f.clitics.length ≤ 3) (nexts := (tabT x (putT most) ats n k (n - (k + 1) + m.long)).take b) h1 (fun t ht => hP m (List.mem_of_getElem? hm) t (List.mem_of_mem_take ht))
  have ht := hP m (List.mem_of_getElem? hm) nx (List.mem_of_getElem? hnx)
  exact ⟨addNexts_len addMs_len, ht.1, fun y hy => (h2.2 y hy).1, ht.2, fun y hy => (h2.2 y hy).2⟩
end Lx
