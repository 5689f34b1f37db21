/- slices.BinarySearchFunc at no element; slices.Insert at the end. Cuts: plain notions. 'put' is one more into the list of the best. -/
import Derived.Test.YtpmnpnlfgfleeaaGreatDoorMgAdd
import Derived.Test.YtpmnpnlfgfleeaaGreatDoorMgRCheckForm
namespace Go.Proofs.YtpmnpnlfgfleeaaGreatDoor
open Go.RowKit

set_option maxRecDepth 100000 in
theorem bsearch_nil (A : Option Addr) (c : Nat) (p : Option Addr) (fv : Value) (w : World) (hf : ∃ g u, fv = .func g #[] #[u]) : Calls Tryz.prog 90 #[.slice A 0 c, .pointer p, fv] w (fun e w' => ∃ b, e = .returned (.tuple #[.int .i64 ((0 : Nat) : Int), .bool b]) ∧ Below w.heap.size w w') := by
  obtain ⟨g, u, rfl⟩ := hf
  go_enter Tryz.func90, Tryz.ntmps90
  go_wp2_with fail
  go_loopg [9, 10] 0 (fun k a b wr => a = .int .i64 0 ∧ b = .int .i64 0 ∧ wr = w)
  case atStart => exact ⟨rfl, rfl, rfl⟩
  case round =>
    obtain ⟨rfl, rfl, rfl⟩ := hrel
    go_wp2_with fail
    go_ret2
    exact ⟨_, rfl, Below.refl _ _⟩

set_option maxRecDepth 100000 in
set_option maxHeartbeats 1000000 in
theorem insert_end (w : World) (base n : Nat) (p : Option Addr) (v : Value) (xs : List Value) (hown : w.ownsRow base 114 1 v n xs) (hn : n ≤ 1000) (hbase : base ≤ w.heap.size) : InsSays w base n n p v xs (xs ++ [.pointer p]) := by
  intro W gu hW hgu _
  have hgul : gu < W.heap.size := (Array.getElem?_eq_some_iff.1 hgu).1
  obtain ⟨u, hue⟩ : ∃ u, u = Value.slice (some ⟨gu, 0, none⟩) 1 1 := ⟨_, rfl⟩
  have hu : RdS W W.heap.size 1 encP u [p] := by rw [hue]; exact rds_block (xs := [p]) len_ptr hgu rfl hgul (Nat.le_refl 1) (by decide)
  rw [← hue]
  clear hue hgu hgul
  have HOWN : Hid (W.ownsRow base 114 1 v n xs) := Lib.hid (hown.kept (grown_of_below (row := none) hW) (by
    rcases hown.2 with ⟨e, _⟩ | ⟨g, cap, cur, e, _⟩
    · rw [e]; exact .inl rfl
    · rw [e]; exact .inr (by simp [Value.ownBlock])))
  obtain ⟨A, c, rfl⟩ := own_form hown
  have hsz := hW.size
  have hbW : base ≤ W.heap.size := by omega
  have hcap : n ≤ c ∧ c ≤ 9223372036854775807 := by
    rcases hown.2 with ⟨e1, h0⟩ | ⟨g, cap, cur, e1, _, hh, hle, hm, _⟩
    · injection e1 with _ _ e3; omega
    · injection e1 with _ _ e3; subst e3; exact ⟨hle, by simpa [maxLen] using hm⟩
  obtain ⟨hc1, hc2⟩ := hcap
  have HU := Lib.hid hu
  obtain ⟨Au, cu, rfl, hcu1, hcu2, -⟩ := hu
  obtain ⟨i0, hi0, hz0, hs0, hb0⟩ := info_parts info_ptail
  clear hown hW
  by_cases hcn : c = n
  · subst hcn
    go_enter Tryz.func93, Tryz.ntmps93
    go_wp2_with (at_builtin; (refine wpList_append_rd (enc := encP) rfl (.tmp 23) (.tmp 24) _ rfl base 114 i0 _ 1 8 len_ptr one_ptr Tryz.underlying110 hi0 hz0 hs0 hb0 rfl Nat.one_pos (.slice A c c) c xs rfl HOWN.out W.heap.size _ [p] rfl HU.out ?h63 ?hb hbW ?_))
    case h63 => simp only [maxLen]; show c + 1 ≤ _; omega
    case hb => show (c + 1) * 8 ≤ _; omega
    intro v' w' hown' hg hat
    have hown1 : w'.ownsRow base 114 1 v' (c + 1) (xs ++ [.pointer p]) := by simpa [encP] using hown'
    obtain ⟨A', c', rfl⟩ := own_form hown1
    have H1 := Lib.hid hown1
    have H2 := Lib.hid hg
    clear hown' hown1 hg hat
    go_wp2_with fail
    go_ret
    exact ⟨_, _, rfl, H1.out, H2.out⟩
  · go_enter Tryz.func93, Tryz.ntmps93
    go_wp2_with (at_builtin; (refine wpList_append_rd (enc := encP) rfl (.tmp 23) (.tmp 24) _ rfl base 114 i0 _ 1 8 len_ptr one_ptr Tryz.underlying110 hi0 hz0 hs0 hb0 rfl Nat.one_pos (.slice A n c) n xs rfl HOWN.out W.heap.size _ [p] rfl HU.out ?h63 ?hb hbW ?_))
    case h63 => simp only [maxLen]; show n + 1 ≤ _; omega
    case hb => show (n + 1) * 8 ≤ _; omega
    intro v' w' hown' hg hat
    have hown1 : w'.ownsRow base 114 1 v' (n + 1) (xs ++ [.pointer p]) := by simpa [encP] using hown'
    obtain ⟨A', c', rfl⟩ := own_form hown1
    have H1 := Lib.hid hown1
    have H2 := Lib.hid hg
    clear hown' hown1 hg hat
    go_wp2_with fail
    go_ret
    exact ⟨_, _, rfl, H1.out, H2.out⟩
end Go.Proofs.YtpmnpnlfgfleeaaGreatDoor
namespace Lx
/-- a cut of the end of a line: weights from each form on, and the forms -/
abbrev Tail := List (Int × Form)
def Match.form (m : Match) : Form := ⟨m.entry, m.ending, m.clitics⟩
def tw : Tail → Int
  | [] => 0
  | a :: _ => a.1
def push (x : Lexicon) (m : Match) (t : Tail) : Tail := (heavyV x m.form + tw t, m.form) :: t
def addNexts (x : Lexicon) (put : List Tail → Tail → List Tail) (m : Match) (nexts : List Tail) (l : List Tail) : List Tail := nexts.foldl (fun l t => put l (push x m t)) l
def addMs (x : Lexicon) (put : List Tail → Tail → List Tail) (tab : Nat → List Tail) (i : Nat) (ms : List Match) (l : List Tail) : List Tail := ms.foldl (fun l m => addNexts x put m (tab (i + m.long)) l) l
/-- the tails from each place on, k places done -/
def tabT (x : Lexicon) (put : List Tail → Tail → List Tail) (ats : Nat → List Match) (n : Nat) : Nat → Nat → List Tail
  | 0 => fun j => if j = n then [[]] else []
  | k + 1 => fun j => if j = n - (k + 1) then addMs x put (tabT x put ats n k) (n - (k + 1)) (ats (n - (k + 1))) [] else tabT x put ats n k j
theorem addNexts_succ {x : Lexicon} {put : List Tail → Tail → List Tail} {m : Match} {nexts : List Tail} {l : List Tail} {b : Nat} {t : Tail} (h : nexts[b]? = some t) : addNexts x put m (nexts.take (b + 1)) l = put (addNexts x put m (nexts.take b) l) (push x m t) := by
  obtain ⟨hb, rfl⟩ := List.getElem?_eq_some_iff.1 h
  unfold addNexts
  rw [List.take_succ_eq_append_getElem hb, List.foldl_append]
  rfl
theorem addMs_succ {x : Lexicon} {put : List Tail → Tail → List Tail} {tab : Nat → List Tail} {i : Nat} {ms : List Match} {l : List Tail} {a : Nat} {m : Match} (h : ms[a]? = some m) :
    addMs x put tab i (ms.take (a + 1)) l = addNexts x put m (tab (i + m.long)) (addMs x put tab i (ms.take a) l) := by
  obtain ⟨hb, rfl⟩ := List.getElem?_eq_some_iff.1 h
  unfold addMs
  rw [List.take_succ_eq_append_getElem hb, List.foldl_append]
  rfl
/-- where one more is put into the list of the best -/
structure Occ (x : Lexicon) (put : List Tail → Tail → List Tail) (ats : Nat → List Match) (n : Nat) (l : List Tail) (t : Tail) : Prop where
  ex : ∃ k a b m nx, k < n ∧ (ats (n - (k + 1)))[a]? = some m ∧ (tabT x put ats n k (n - (k + 1) + m.long))[b]? = some nx ∧ t = push x m nx ∧
    l = addNexts x put m ((tabT x put ats n k (n - (k + 1) + m.long)).take b) (addMs x put (tabT x put ats n k) (n - (k + 1)) ((ats (n - (k + 1))).take a) [])
/-- weights stay small -/
theorem foldl_inv {α β : Type} {P : α → Prop} {f : α → β → α} : ∀ (l : List β) (a : α), P a → (∀ a b, P a → b ∈ l → P (f a b)) → P (l.foldl f a)
  | [], a, h, _ => h
  | b :: r, a, h, hs => foldl_inv r (f a b) (hs a b h (by simp)) (fun a' b' h' hb => hs a' b' h' (by simp [hb]))
theorem tab_tw {x : Lexicon} {put : List Tail → Tail → List Tail} {ats : Nat → List Match} {n : Nat} (hc : checkV x = 0) (hput : ∀ l t y, y ∈ put l t → y = t ∨ y ∈ l) (hat : ∀ j m, m ∈ ats j → 1 ≤ m.long ∧ m.clitics.length ≤ 3) :
    ∀ k, ∀ j, ∀ t ∈ tabT x put ats n k j, 0 ≤ tw t ∧ tw t ≤ 5000 * k := by
  intro k
  induction k with
  | zero =>
    intro j t ht
    simp only [tabT] at ht
    split at ht
    · simp at ht; subst ht; simp [tw]
    · simp at ht
  | succ k ih =>
    intro j t ht
    simp only [tabT] at ht
    split at ht
    · refine foldl_inv (P := fun l => ∀ t ∈ l, 0 ≤ tw t ∧ tw t ≤ 5000 * ((k + 1 : Nat) : Int)) (ats (n - (k + 1))) [] (by simp) ?_ t ht
      intro l m hl hm
      refine foldl_inv (P := fun l => ∀ t ∈ l, 0 ≤ tw t ∧ tw t ≤ 5000 * ((k + 1 : Nat) : Int)) _ l hl ?_
      intro l' nx hl' hnx y hy
      rcases hput _ _ _ hy with rfl | hy
      · have h1 := ih _ _ hnx
        have h2 := heavyV_le (f := m.form) hc (hat _ _ hm).2
        simp only [push, tw]
        simp only [tw] at h1
        omega
      · exact hl' y hy
    · have := ih j t ht
      omega
theorem tab_llen {x : Lexicon} {put : List Tail → Tail → List Tail} {ats : Nat → List Match} {n : Nat} (hlen : ∀ l t, (put l t).length ≤ 64) : ∀ k j, (tabT x put ats n k j).length ≤ 64 := by
  intro k
  induction k with
  | zero => intro j; simp only [tabT]; split <;> simp
  | succ k ih =>
    intro j
    simp only [tabT]
    split
    · refine foldl_inv (P := fun l : List Tail => l.length ≤ 64) _ [] (by simp) ?_
      intro l m hl _
      exact foldl_inv (P := fun l : List Tail => l.length ≤ 64) _ l hl (fun l' nx _ _ => hlen _ _)
    · exact ih j
theorem tab_tlen {x : Lexicon} {put : List Tail → Tail → List Tail} {ats : Nat → List Match} {n : Nat} (hput : ∀ l t y, y ∈ put l t → y = t ∨ y ∈ l) : ∀ k j, ∀ t ∈ tabT x put ats n k j, t.length ≤ k := by
  intro k
  induction k with
  | zero =>
    intro j t ht
    simp only [tabT] at ht
    split at ht
    · simp at ht; subst ht; simp
    · simp at ht
  | succ k ih =>
    intro j t ht
    simp only [tabT] at ht
    split at ht
    · refine foldl_inv (P := fun l : List Tail => ∀ t ∈ l, t.length ≤ k + 1) _ [] (by simp) ?_ t ht
      intro l m hl _
      refine foldl_inv (P := fun l : List Tail => ∀ t ∈ l, t.length ≤ k + 1) _ l hl ?_
      intro l' nx hl' hnx y hy
      rcases hput _ _ _ hy with rfl | hy
      · have := ih _ _ hnx
        simp [push]; omega
      · exact hl' y hy
    · have := ih j t ht
      omega
theorem tab_forms {x : Lexicon} {put : List Tail → Tail → List Tail} {ats : Nat → List Match} {n : Nat} {P : Form → Prop} (hput : ∀ l t y, y ∈ put l t → y = t ∨ y ∈ l) (hat : ∀ j m, m ∈ ats j → P m.form) : ∀ k j, ∀ t ∈ tabT x put ats n k j, ∀ a ∈ t, P a.2 := by
  intro k
  induction k with
  | zero =>
    intro j t ht
    simp only [tabT] at ht
    split at ht
    · simp at ht; subst ht; simp
    · simp at ht
  | succ k ih =>
    intro j t ht
    simp only [tabT] at ht
    split at ht
    · refine foldl_inv (P := fun l : List Tail => ∀ t ∈ l, ∀ a ∈ t, P a.2) _ [] (by simp) ?_ t ht
      intro l m hl hm
      refine foldl_inv (P := fun l : List Tail => ∀ t ∈ l, ∀ a ∈ t, P a.2) _ l hl ?_
      intro l' nx hl' hnx y hy
      rcases hput _ _ _ hy with rfl | hy
      · intro a ha
        simp only [push, List.mem_cons] at ha
        rcases ha with rfl | ha
        · exact hat _ _ hm
        · exact ih _ _ hnx a ha
      · exact hl' y hy
    · exact ih j t ht
def cutsOf (l : List Tail) : List (List Form × Int) := l.map fun t => (t.map (·.2), tw t)
theorem cutsOf_succ {l : List Tail} {a : Nat} {t : Tail} (h : l[a]? = some t) : cutsOf (l.take (a + 1)) = cutsOf (l.take a) ++ [(t.map (·.2), tw t)] := by
  obtain ⟨hb, rfl⟩ := List.getElem?_eq_some_iff.1 h
  unfold cutsOf
  rw [List.take_succ_eq_append_getElem hb, List.map_append]
  rfl
theorem tab_ne {x : Lexicon} {put : List Tail → Tail → List Tail} {ats : Nat → List Match} {n : Nat} (hn : 1 ≤ n) (hput : ∀ l t y, y ∈ put l t → y = t ∨ y ∈ l) : ∀ t ∈ tabT x put ats n n 0, t ≠ [] := by
  obtain ⟨k, rfl⟩ : ∃ k, n = k + 1 := ⟨n - 1, by omega⟩
  intro t ht
  simp only [tabT] at ht
  rw [if_pos (by omega)] at ht
  refine foldl_inv (P := fun l => ∀ t ∈ l, t ≠ []) _ [] (by simp) ?_ t ht
  intro l m hl _
  refine foldl_inv (P := fun l => ∀ t ∈ l, t ≠ []) _ l hl ?_
  intro l' nx hl' _ y hy
  rcases hput _ _ _ hy with rfl | hy
  · simp [push]
  · exact hl' y hy
end Lx
