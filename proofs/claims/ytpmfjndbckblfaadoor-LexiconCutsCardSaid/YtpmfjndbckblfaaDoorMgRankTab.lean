/- ostraconref05.Cuts: the errors. The tables of cuts, of both: plain law. -/
import Derived.Test.YtpmfjndbckblfaaDoorMgRPut
import Derived.Test.YtpmfjndbckblfaaDoorMgRWays
import Derived.Test.YtpmfjndbckblfaaDoorMgRankPlain
import Derived.Test.YtpmfjndbckblfaaDoorMgWaysPlain
namespace Go.Proofs.YtpmfjndbckblfaaDoor
open Go.RowKit

set_option maxRecDepth 100000 in
set_option maxHeartbeats 2000000 in
theorem rCuts_err (x : Lx.Lexicon) (s : ByteArray) (most : Int) (hs : s.size ≤ maxLen) (vx : Value) (w : World) (hr : RdL w w.heap.size vx x) (hz : Lx.speechV x s ≠ 0) :
    Calls Tryd.prog 22 #[vx, .string s, .int .i64 most] w (RetVI w (fun _ v => v = .slice none 0 0) (Lx.speechV x s)) := by
  have HSP : Hid (∀ (W : World), Below w.heap.size w W → Calls Tryd.prog 70 #[vx, .string s] W (RetIB (Lx.speechV x s) W)) := Lib.hid fun W hW => rspeech_any vx x s W ((hr.below hW).more hW.size) hs
  obtain ⟨⟨v0, v1, v2, rfl, ⟨A0, c0, rfl, -⟩, ⟨A1, c1, rfl, -⟩, ⟨A2, c2, rfl, -⟩⟩, -, -, -⟩ := hr
  generalize Lx.speechV x s = cv at *
  have hq : (cv == 0) = false := by simp [hz]
  have hq' : (cv != 0) = true := by simp [hz]
  clear hz
  go_enter Tryd.func22, Tryd.ntmps22
  go_wp2_with fail
  refine (HSP.out _ ((Below.refl _ _).alloc (Nat.le_refl _) _)).mono ?_
  rintro e1 w1 ⟨rfl, hb1⟩
  have HB1 := Lib.hid (((Below.refl w.heap.size w).alloc (Nat.le_refl _) (.cells #[.slice A0 x.entries.length c0, .slice A1 x.endings.length c1, .slice A2 x.clitics.length c2] 26)).trans (hb1.mono (by simp)))
  clear hb1
  go_wp2_with fail
  go_ret2
  exact ⟨_, rfl, rfl, HB1.out⟩

set_option maxRecDepth 100000 in
set_option maxHeartbeats 2000000 in
theorem rCuts_arg (x : Lx.Lexicon) (s : ByteArray) (most : Int) (hs : s.size ≤ maxLen) (vx : Value) (w : World) (hr : RdL w w.heap.size vx x) (hz : Lx.speechV x s = 0) (hm : Lx.withinB most 1 64 = false) :
    Calls Tryd.prog 22 #[vx, .string s, .int .i64 most] w (RetVI w (fun _ v => v = .slice none 0 0) 1) := by
  have HSP : Hid (∀ (W : World), Below w.heap.size w W → Calls Tryd.prog 70 #[vx, .string s] W (RetIB (Lx.speechV x s) W)) := Lib.hid fun W hW => rspeech_any vx x s W ((hr.below hW).more hW.size) hs
  obtain ⟨⟨v0, v1, v2, rfl, ⟨A0, c0, rfl, -⟩, ⟨A1, c1, rfl, -⟩, ⟨A2, c2, rfl, -⟩⟩, -, -, -⟩ := hr
  have HZ := Lib.hid hz
  have hm' : most < 1 ∨ 64 < most := by
    rcases Decidable.em (most < 1 ∨ 64 < most) with h | h
    · exact h
    · exfalso
      have : Lx.withinB most 1 64 = true := by simp [Lx.withinB]; omega
      rw [hm] at this
      cases this
  clear hz hm
  go_enter Tryd.func22, Tryd.ntmps22
  go_wp2_with fail
  refine (HSP.out _ ((Below.refl _ _).alloc (Nat.le_refl _) _)).mono ?_
  rw [HZ.out]
  rintro e1 w1 ⟨rfl, hb1⟩
  have HB1 := Lib.hid (((Below.refl w.heap.size w).alloc (Nat.le_refl _) (.cells #[.slice A0 x.entries.length c0, .slice A1 x.endings.length c1, .slice A2 x.clitics.length c2] 26)).trans (hb1.mono (by simp)))
  clear hb1
  by_cases h1 : most < 1
  · clear hm'
    go_wp2_with fail
    go_ret2
    exact ⟨_, rfl, rfl, HB1.out⟩
  · have h2 : 64 < most := by omega
    clear hm'
    go_wp2_with fail
    go_ret2
    exact ⟨_, rfl, rfl, HB1.out⟩
end Go.Proofs.YtpmfjndbckblfaaDoor
namespace Lx
def cutOf (t : Tail) : Cut := (t.map (·.2), tw t)
/-- one more into the tails in order -/
def insT : List Tail → Tail → List Tail
  | [], t => [t]
  | y :: r, t => if rb (cutOf t) (cutOf y) then t :: y :: r else y :: insT r t
def putT (most : Nat) (l : List Tail) (t : Tail) : List Tail := (insT l t).take most
theorem insT_mem : ∀ {l : List Tail} {t y : Tail}, y ∈ insT l t → y = t ∨ y ∈ l
  | [], t, y, h => by simp [insT] at h; exact .inl h
  | z :: r, t, y, h => by
    unfold insT at h
    split at h
    · simpa using h
    · rcases List.mem_cons.1 h with h | h
      · exact .inr (by simp [h])
      · rcases insT_mem h with h | h
        · exact .inl h
        · exact .inr (by simp [h])
theorem putT_mem {most : Nat} {l : List Tail} {t y : Tail} (h : y ∈ putT most l t) : y = t ∨ y ∈ l := insT_mem (List.mem_of_mem_take h)
theorem putT_len {most : Nat} (hm : most ≤ 64) (l : List Tail) (t : Tail) : (putT most l t).length ≤ 64 := by
  unfold putT
  rw [List.length_take]
  omega
theorem map_insT : ∀ (l : List Tail) (t : Tail), (insT l t).map cutOf = insC (l.map cutOf) (cutOf t)
  | [], t => rfl
  | y :: r, t => by
    rw [insT, List.map_cons, insC]
    split
    · rfl
    · rw [List.map_cons, map_insT r t]
theorem map_putT (most : Nat) (l : List Tail) (t : Tail) : (putT most l t).map cutOf = putC most (l.map cutOf) (cutOf t) := by
  unfold putT putC
  rw [List.map_take, map_insT]
theorem map_foldl {α β γ : Type} (f : α → γ → α) (g : β → γ → β) (h : α → β) (hh : ∀ a c, h (f a c) = g (h a) c) : ∀ (l : List γ) (a : α), h (l.foldl f a) = l.foldl g (h a)
  | [], _ => rfl
  | c :: r, a => by rw [List.foldl_cons, List.foldl_cons, map_foldl f g h hh r, hh]
/-- a form ahead of a cut -/
def pushC (x : Lexicon) (f : Form) (c : Cut) : Cut := (f :: c.1, heavyV x f + c.2)
theorem cutOf_push (x : Lexicon) (m : Match) (t : Tail) : cutOf (push x m t) = pushC x m.form (cutOf t) := rfl
/-- the table of the reference -/
def rtabT (x : Lexicon) (most : Nat) (forms : Nat → Nat → List Form) (n : Nat) : Nat → Nat → List Cut
  | 0 => fun j => if j = n then [([], 0)] else []
  | k + 1 => fun j => if j = n - (k + 1) then ((nxt n (n - (k + 1))).flatMap fun t => (forms (n - (k + 1)) t).flatMap fun f => (rtabT x most forms n k t).map (pushC x f)).foldl (putC most) [] else rtabT x most forms n k j
theorem foldl_flatMap' {α β γ : Type} (f : γ → β → γ) (g : α → List β) : ∀ (l : List α) (a : γ), (l.flatMap g).foldl f a = l.foldl (fun a x => (g x).foldl f a) a
  | [], _ => rfl
  | x :: r, a => by rw [List.flatMap_cons, List.foldl_append, List.foldl_cons, foldl_flatMap' f g r]
theorem foldl_map' {α β γ : Type} (f : γ → β → γ) (g : α → β) : ∀ (l : List α) (a : γ), (l.map g).foldl f a = l.foldl (fun a x => f a (g x)) a
  | [], _ => rfl
  | x :: r, a => by rw [List.map_cons, List.foldl_cons, List.foldl_cons, foldl_map' f g r]
theorem map_addMs {x : Lexicon} {most : Nat} {tab : Nat → List Tail} {i : Nat} (ms : List Match) : (addMs x (putT most) tab i ms []).map cutOf = (ms.flatMap fun m => ((tab (i + m.long)).map cutOf).map (pushC x m.form)).foldl (putC most) [] := by
  unfold addMs
  rw [foldl_flatMap']
  refine map_foldl (fun l (m : Match) => addNexts x (putT most) m (tab (i + m.long)) l) (fun (a : List Cut) (m : Match) => (((tab (i + m.long)).map cutOf).map (pushC x m.form)).foldl (putC most) a) (fun l => l.map cutOf) (fun a m => ?_) ms []
  unfold addNexts
  rw [foldl_map', foldl_map']
  refine map_foldl (fun l (t : Tail) => putT most l (push x m t)) (fun (a : List Cut) (t : Tail) => putC most a (pushC x m.form (cutOf t))) (fun l => l.map cutOf) (fun a t => ?_) _ a
  show (putT most a (push x m t)).map cutOf = _
  rw [map_putT, cutOf_push]
theorem flatMap_append_perm {α β : Type} (f g : α → List β) : ∀ l : List α, (l.flatMap fun a => f a ++ g a).Perm (l.flatMap f ++ l.flatMap g)
  | [] => .refl _
  | a :: r => by
    rw [List.flatMap_cons, List.flatMap_cons, List.flatMap_cons]
    refine ((flatMap_append_perm f g r).append_left (f a ++ g a)).trans ?_
    rw [List.append_assoc, List.append_assoc]
    refine List.Perm.append_left (f a) ?_
    rw [← List.append_assoc, ← List.append_assoc]
    exact List.Perm.append_right _ List.perm_append_comm
theorem flatMap_one {β : Type} (L : List β) (v : Nat) : ∀ l : List Nat, l.Nodup → v ∈ l → (l.flatMap fun t => if v = t then L else []) = L
  | [], _, h => by simp at h
  | t :: r, hn, h => by
    obtain ⟨h1, h2⟩ := List.nodup_cons.1 hn
    rw [List.flatMap_cons]
    by_cases e : v = t
    · subst e
      rw [if_pos rfl]
      have : (r.flatMap fun t => if v = t then L else []) = [] := by
        rw [List.flatMap_eq_nil_iff]
        intro t ht
        rw [if_neg (fun e => h1 (by rw [e]; exact ht))]
      rw [this, List.append_nil]
    · rw [if_neg e, List.nil_append]
      exact flatMap_one L v r h2 (by simpa [e] using h)
/-- match by match, or end by end: the same up toq the order -/
theorem by_ends {β : Type} (g : Form → Nat → List β) (n i : Nat) : ∀ ms : List Match, (∀ m ∈ ms, 1 ≤ m.long ∧ m.long ≤ n - i ∧ m.long ≤ 24) →
    (ms.flatMap fun m => g m.form (i + m.long)).Perm ((nxt n i).flatMap fun t => (withK ms (t - i)).flatMap fun f => g f t)
  | [], _ => by
    have : ((nxt n i).flatMap fun t => (withK [] (t - i)).flatMap fun f => g f t) = [] := by
      rw [List.flatMap_eq_nil_iff]
      intro t _
      rfl
    rw [this]
    exact .refl _
  | m :: r, h => by
    have hm := h m (by simp)
    have ih := by_ends g n i r (fun m' hm' => h m' (by simp [hm']))
    have e : ((nxt n i).flatMap fun t => (withK (m :: r) (t - i)).flatMap fun f => g f t) = (nxt n i).flatMap fun t => (if i + m.long = t then g m.form (i + m.long) else []) ++ (withK r (t - i)).flatMap fun f => g f t := by
      rw [List.flatMap_def, List.flatMap_def]
      congr 1
      refine List.map_congr_left fun t ht => ?_
      unfold nxt at ht
      rw [List.mem_range'_1] at ht
      rw [withK_cons, List.flatMap_append]
      congr 1
      by_cases hl : m.long = t - i
      · rw [if_pos hl, if_pos (by omega), show i + m.long = t by omega]
        simp
      · rw [if_neg hl, if_neg (by omega)]
        rfl
    rw [e, List.flatMap_cons]
    refine .trans ?_ (flatMap_append_perm _ _ _).symm
    rw [flatMap_one _ _ _ (by unfold nxt; exact List.nodup_range') (by unfold nxt; rw [List.mem_range'_1]; omega)]
    exact ih.append_left _
theorem tab_law {x : Lexicon} {most : Nat} {ats : Nat → List Match} {forms : Nat → Nat → List Form} {n : Nat} (hat : ∀ i, i < n → ∀ m ∈ ats i, 1 ≤ m.long ∧ m.long ≤ n - i ∧ m.long ≤ 24) (hf : ∀ i t, i < t → t ≤ n → forms i t = withK (ats i) (t - i)) :
    ∀ k, k ≤ n → ∀ j, (tabT x (putT most) ats n k j).map cutOf = rtabT x most forms n k j := by
  intro k
  induction k with
  | zero =>
    intro _ j
    unfold tabT rtabT
    split <;> rfl
  | succ k ih =>
    intro hk j
    unfold tabT rtabT
    by_cases hj : j = n - (k + 1)
    · have hi : n - (k + 1) < n := by omega
      simp only [if_pos hj]
      rw [map_addMs]
      have e1 : (fun m : Match => ((tabT x (putT most) ats n k (n - (k + 1) + m.long)).map cutOf).map (pushC x m.form)) = fun m => (fun (f : Form) (t : Nat) => (rtabT x most forms n k t).map (pushC x f)) m.form (n - (k + 1) + m.long) := funext fun m => by rw [ih (by omega)]
      rw [e1, put_law (by_ends (fun (f : Form) (t : Nat) => (rtabT x most forms n k t).map (pushC x f)) n (n - (k + 1)) _ (hat _ hi))]
      congr 1
      rw [List.flatMap_def, List.flatMap_def]
      congr 1
      refine List.map_congr_left fun t ht => ?_
      unfold nxt at ht
      rw [List.mem_range'_1] at ht
      rw [hf _ _ (by omega) (by omega)]
    · simp only [if_neg hj]
      exact ih (by omega) j
end Lx
