/- The table of the reference's cuts in memory. -/
import Derived.Test.YtpmfjndbckblfaaDoorMgRankTab
import Derived.Test.YtpmfjndbckblfaaDoorMgCutsLaw
namespace Go.Proofs.YtpmfjndbckblfaaDoor
open Go.RowKit

theorem info_sRCut : (Tryd.prog.info? 45).map (fun i => (i.zero, i.size, i.bytes)) = some (some (.slice none 0 0), 1, 24) := by kernel_rfl
theorem make_cuts (n : Nat) (hn : n ≤ 1000) : ∃ arr0 : Array Value, arr0.size = n + 1 ∧ (∀ j, j ≤ n → arr0[j]? = some (.slice none 0 0)) ∧
    ∀ W : World, (Instr.makeSlice 105 (.int .i64 ((n : Int) + 1)) (.int .i64 ((n : Int) + 1))).run Tryd.prog W = .ok (.slice (some ⟨W.heap.size, 0, none⟩) (n + 1) (n + 1)) (W.alloc (.cells arr0 45)) := by
  obtain ⟨i0, hi0, hz0, hs0, hb0⟩ := info_parts info_sRCut
  refine ⟨madeCells #[.slice none 0 0] (n + 1), size_madeCells _ _, fun j hj => ?_, fun W => ?_⟩
  · rw [← Array.getElem?_toList, toList_madeCells_one]
    rw [List.getElem?_replicate_of_lt (by omega)]
  · have := run_make (P := Tryd.prog) W 105 45 i0 _ Tryd.underlying105 hi0 hz0 .i64 .i64 ((n : Int) + 1) ((n : Int) + 1) (by omega) (by omega) (by rw [hb0]; omega) (by omega)
    rw [this, hs0, show ((n : Int) + 1).toNat = n + 1 by omega, Nat.mul_one]
    rfl
theorem pick_list {α β : Type} (R : Nat → α → β → Prop) : ∀ (xs : List α) (k : Nat), (∀ i a, xs[i]? = some a → ∃ b, R (k + i) a b) → ∃ ys : List β, ys.length = xs.length ∧ ∀ i a, xs[i]? = some a → ∃ b, ys[i]? = some b ∧ R (k + i) a b
  | [], _, _ => ⟨[], rfl, fun i a h => by simp at h⟩
  | a :: r, k, h => by
    obtain ⟨b, hb⟩ := h 0 a rfl
    obtain ⟨ys, h1, h2⟩ := pick_list R r (k + 1) (fun i a' hi => by
      obtain ⟨b', hb'⟩ := h (i + 1) a' (by simpa using hi)
      exact ⟨b', by rwa [show k + 1 + i = k + (i + 1) by omega]⟩)
    refine ⟨b :: ys, by simp [h1], fun i a' hi => ?_⟩
    cases i with
    | zero => simp at hi; subst hi; exact ⟨b, rfl, hb⟩
    | succ i =>
      obtain ⟨b', e1, e2⟩ := h2 i a' (by simpa using hi)
      exact ⟨b', by simpa using e1, by rwa [show k + (i + 1) = k + 1 + i by omega]⟩
theorem grows_enc {α β : Type} {K : RowK α} {enc : β → List Value} {w : World} {ok : Nat → Prop} : ∀ (xs : List α) (ys : List β), ys.length = xs.length → (∀ (i : Nat) (a : α), xs[i]? = some a → ∃ y, ys[i]? = some y ∧ K.rd w ok (enc y) a) → grows K w ok (ys.flatMap enc) xs
  | [], [], _, _ => .nil
  | a :: r, y :: ys, hl, h => by
    obtain ⟨y', e1, e2⟩ := h 0 a rfl
    simp at e1
    subst e1
    rw [List.flatMap_cons]
    exact .cons e2 (grows_enc r ys (by simpa using hl) fun i a' hi => by
      obtain ⟨y', e1, e2⟩ := h (i + 1) a' (by simpa using hi)
      exact ⟨y', by simpa using e1, e2⟩)
  | a :: r, [], hl, _ => by simp at hl
  | [], y :: ys, hl, _ => by simp at hl
/-- a list of forms, as rows of three cells -/
theorem rdg_forms {w : World} {ok : Nat → Prop} {v : Value} {l : List Lx.Form} (h : RdG KForm w ok v l) : ∃ ys : List (Int × Int × (Option Addr × Nat × Nat)), ys.length = l.length ∧ RdX w ok 3 enc3 v ys ∧ grows KForm w ok (ys.flatMap enc3) l := by
  obtain ⟨A, c, hv, hl, hc, hh⟩ := h
  by_cases h0 : 0 < l.length
  · obtain ⟨b, off, hA, hb, hcell⟩ := hh h0
    obtain ⟨ys, h1, h2⟩ := pick_list (fun i (a : Lx.Form) (y : Int × Int × (Option Addr × Nat × Nat)) => KForm.rd w ok (enc3 y) a ∧ ∀ (j : Nat) (u : Value), (enc3 y)[j]? = some u → w.cell? ⟨b, off + i * 3 + j, none⟩ = some u) l 0 (fun i a hi => by
      obtain ⟨cs, ⟨s, rfl, hx⟩, e2⟩ := hcell i a hi
      obtain ⟨A', c', rfl, _⟩ := id hx
      rw [Nat.zero_add]
      exact ⟨(a.entry, a.ending, (A', a.clitics.length, c')), ⟨_, rfl, hx⟩, e2⟩)
    refine ⟨ys, h1, ⟨A, c, by rw [h1]; exact hv, by omega, hc, fun _ => ⟨b, off, hA, hb, fun i y hy j u hj => ?_⟩⟩, grows_enc l ys h1 fun i a hi => ?_⟩
    · have hil : i < l.length := by have := (List.getElem?_eq_some_iff.1 hy).1; omega
      obtain ⟨y', e1, e2⟩ := h2 i _ (List.getElem?_eq_getElem hil)
      rw [hy] at e1
      cases e1
      have := e2.2 j u hj
      rw [Nat.zero_add] at this
      exact this
    · obtain ⟨y', e1, e2⟩ := h2 i a hi
      exact ⟨y', e1, e2.1⟩
  · have hn : l = [] := List.eq_nil_of_length_eq_zero (by omega)
    subst hn
    exact ⟨[], rfl, ⟨A, c, hv, hl, hc, fun h => absurd h (by simp)⟩, .nil⟩
theorem rdg_row {α : Type} {K : RowK α} {e : TypeId} {w : World} {base : Nat} {ok : Nat → Prop} {v : Value} {xs : List α} {cells : List Value} (h1 : w.ownsRow base e K.size v xs.length cells) (h2 : grows K w ok cells xs) (h3 : ∀ g, v.ownBlock = some g → ok g) : RdG K w ok v xs := by
  obtain ⟨_, h4⟩ := id h1
  rcases h4 with ⟨rfl, h0⟩ | ⟨g, cap, cur, rfl, hg, hh, hle, hm, hs, ht⟩
  · exact ⟨none, 0, by rw [h0], by omega, by omega, fun hp => by omega⟩
  · refine ⟨some ⟨g, 0, none⟩, cap, rfl, hle, by simpa [maxLen] using hm, fun _ => ⟨g, 0, rfl, h3 g rfl, fun i a hi => ?_⟩⟩
    obtain ⟨cs, e1, e2⟩ := h2.at hi
    refine ⟨cs, e1, fun j u hj => ?_⟩
    have := h1.cells rfl (i * K.size + j) u (e2 j u hj)
    rw [addr_add] at this
    rw [← this, Nat.add_assoc]
/-- the table at block G between two rounds -/
def RdTb (w : World) (G n k : Nat) (T : Nat → List Lx.Cut) : Prop :=
  ∃ arr : Array Value, w.heap[G]? = some (.cells arr 45 (0, 0)) ∧ arr.size = n + 1 ∧ (∀ j, j ≤ n → ∃ u, arr[j]? = some u ∧ RdG KCut w (fun b => G < b ∧ b < w.heap.size) u (T j)) ∧ ∀ j, j < n - k → arr[j]? = some (.slice none 0 0)
/-- and within the round of place i -/
def TabC (w : World) (G n S i : Nat) (Q : Nat → Prop) (T : Nat → List Lx.Cut) (l : List Lx.Cut) : Prop :=
  ∃ (arr : Array Value) (v : Value), w.heap[G]? = some (.cells arr 45 (0, 0)) ∧ arr.size = n + 1 ∧ arr[i]? = some v ∧ OwnG KCut 51 w (G + 1) v l ∧ (∀ g, v.ownBlock = some g → S ≤ g ∧ Q g) ∧
    (∀ j, j ≤ n → j ≠ i → ∃ u, arr[j]? = some u ∧ RdG KCut w (fun b => G < b ∧ b < S) u (T j)) ∧ ∀ j, j < i → arr[j]? = some (.slice none 0 0)
theorem Lx.rtab_low {x : Lx.Lexicon} {most : Nat} {forms : Nat → Nat → List Lx.Form} {n : Nat} : ∀ k j, k ≤ n → j < n - k → Lx.rtabT x most forms n k j = []
  | 0, j, _, h => by unfold Lx.rtabT; rw [if_neg (by omega)]
  | k + 1, j, hk, h => by unfold Lx.rtabT; rw [if_neg (by omega)]; exact Lx.rtab_low k j (by omega) (by omega)
theorem Lx.rtab_other {x : Lx.Lexicon} {most : Nat} {forms : Nat → Nat → List Lx.Form} {n k j : Nat} (h : j ≠ n - (k + 1)) : Lx.rtabT x most forms n (k + 1) j = Lx.rtabT x most forms n k j := by
  conv => lhs; unfold Lx.rtabT
  rw [if_neg h]
section
variable {w w' : World} {G n S i k : Nat} {Q Q' : Nat → Prop} {T : Nat → List Lx.Cut} {l : List Lx.Cut}
theorem RdTb.start {x : Lx.Lexicon} {most : Nat} {forms : Nat → Nat → List Lx.Form} {arr0 : Array Value} (hs : arr0.size = n + 1) (h0 : ∀ j, j ≤ n → arr0[j]? = some (.slice none 0 0)) (hG : w.heap[G]? = some (.cells (arr0.setIfInBounds n (.slice (some ⟨G + 1, 0, none⟩) 1 1)) 45 (0, 0)))
    (hR : w.heap[G + 1]? = some (.cells #[.slice none 0 0, .int .i64 0] 51 (0, 0))) : RdTb w G n 0 (Lx.rtabT x most forms n 0) := by
  refine ⟨_, hG, by simpa using hs, fun j hj => ?_, fun j hj => ?_⟩
  · by_cases hjn : j = n
    · subst hjn
      refine ⟨_, set_same (by omega), ?_⟩
      have e : Lx.rtabT x most forms j 0 j = [([], 0)] := by unfold Lx.rtabT; rw [if_pos rfl]
      rw [e]
      refine ⟨_, 1, rfl, by simp, by omega, fun _ => ⟨G + 1, 0, rfl, ⟨by omega, (Array.getElem?_eq_some_iff.1 hR).1⟩, fun i a hi => ?_⟩⟩
      match i, hi with
      | 0, hi =>
        simp at hi
        subst hi
        refine ⟨[.slice none 0 0, .int .i64 0], ⟨_, rfl, RdG.nil _ _⟩, fun j' u hj' => ?_⟩
        rw [Nat.zero_mul, Nat.add_zero, Nat.zero_add]
        match j', hj' with
        | 0, hj' => simp at hj'; subst hj'; simp [World.cell?, hR]
        | 1, hj' => simp at hj'; subst hj'; simp [World.cell?, hR]
        | j' + 2, hj' => simp at hj'
      | i + 1, hi => simp at hi
    · refine ⟨_, (set_other hjn).trans (h0 j hj), ?_⟩
      have e : Lx.rtabT x most forms n 0 j = [] := by unfold Lx.rtabT; rw [if_neg hjn]
      rw [e]
      exact RdG.nil _ _
  · rw [set_other (by omega)]
    exact h0 j (by omega)
theorem RdTb.open (h : RdTb w G n k T) (hi : i = n - (k + 1)) (hk : k + 1 ≤ n) : TabC w G n w.heap.size i (fun _ => True) T [] := by
  obtain ⟨arr, h1, h2, h3, h4⟩ := h
  exact ⟨arr, _, h1, h2, h4 i (by omega), OwnG.nil _ _ _, fun g hg => by simp [Value.ownBlock] at hg, fun j hj _ => h3 j hj, fun j hj => h4 j (by omega)⟩
theorem TabC.kept (h : TabC w G n S i Q T l) (hb : Below w.heap.size w w') (hS : S ≤ w.heap.size) : TabC w' G n S i Q T l := by
  obtain ⟨arr, v, h1, h2, h3, h4, h5, h6, h7⟩ := h
  exact ⟨arr, v, (hb.block G (Array.getElem?_eq_some_iff.1 h1).1).trans h1, h2, h3, h4.kept hb, h5, fun j hj hji => by
    obtain ⟨u, e1, e2⟩ := h6 j hj hji
    exact ⟨u, e1, e2.keep fun b hb' => ⟨hb', hb.block b (by omega)⟩⟩, h7⟩
theorem TabC.weak (h : TabC w G n S i Q T l) (hq : ∀ g, S ≤ g → g < w.heap.size → Q g → Q' g) : TabC w G n S i Q' T l := by
  obtain ⟨arr, v, h1, h2, h3, h4, h5, h6, h7⟩ := h
  exact ⟨arr, v, h1, h2, h3, h4, fun g hg => ⟨(h5 g hg).1, hq g (h5 g hg).1 (h4.lt g hg).2 (h5 g hg).2⟩, h6, h7⟩
theorem TabC.cell (h : TabC w G n S i Q T l) {j : Nat} (hj : j ≤ n) (hji : j ≠ i) : ∃ u, w.cell? ⟨G, j, none⟩ = some u ∧ RdG KCut w (fun b => G < b ∧ b < S) u (T j) := by
  obtain ⟨arr, v, h1, h2, h3, h4, h5, h6, h7⟩ := h
  obtain ⟨u, e1, e2⟩ := h6 j hj hji
  exact ⟨u, by simp [World.cell?, h1, e1], e2⟩
theorem TabC.own (h : TabC w G n S i Q T l) : ∃ v, w.cell? ⟨G, i, none⟩ = some v ∧ OwnG KCut 51 w (G + 1) v l ∧ ∀ g, v.ownBlock = some g → S ≤ g ∧ Q g := by
  obtain ⟨arr, v, h1, h2, h3, h4, h5, h6, h7⟩ := h
  exact ⟨v, by simp [World.cell?, h1, h3], h4, h5⟩
theorem TabC.frozen (h : TabC w G n S i Q T l) (j : Nat) : w.frozen? ⟨G, j, none⟩ = false := by
  obtain ⟨arr, v, h1, _⟩ := h
  simp [World.frozen?, h1]
/-- put has been called -/
def PutP (w0 wm : World) (G : Nat) (vo v' : Value) (l : List Lx.Cut) : Prop :=
  OwnG KCut 51 wm (G + 1) v' l ∧ w0.grownBy wm vo.ownBlock ∧ (v'.ownBlock = vo.ownBlock ∨ ∃ g, v'.ownBlock = some g ∧ w0.heap.size ≤ g)
theorem TabC.put {w0 wm : World} {vo v' : Value} {l' : List Lx.Cut} (h : TabC w0 G n S i Q T l) (hc : w0.cell? ⟨G, i, none⟩ = some vo) (hp : PutP w0 wm G vo v' l') (hGS : G < S) (hS : S ≤ w0.heap.size) (hi : i ≤ n) (hQ : ∀ g, w0.heap.size ≤ g → Q g) :
    TabC (wm.setCell ⟨G, i, none⟩ v') G n S i Q T l' ∧ ∀ b, b < w0.heap.size → b ≠ G → some b ≠ vo.ownBlock → (wm.setCell ⟨G, i, none⟩ v').heap[b]? = w0.heap[b]? := by
  obtain ⟨arr, v, h1, h2, h3, h4, h5, h6, h7⟩ := h
  obtain ⟨p1, p2, p3⟩ := hp
  have hv : v = vo := by simpa [World.cell?, h1, h3] using hc
  subst hv
  have hGl : G < w0.heap.size := (Array.getElem?_eq_some_iff.1 h1).1
  have hne : some G ≠ v.ownBlock := fun e => by have := (h5 G e.symm).1; omega
  have hm : wm.heap[G]? = some (.cells arr 45 (0, 0)) := (p2.block G hGl hne).trans h1
  have hk : ∀ b, b ≠ G → (wm.setCell ⟨G, i, none⟩ v').heap[b]? = wm.heap[b]? := fun b hb => by simp [World.setCell, Array.getElem?_modify, Ne.symm hb]
  have hkk : ∀ b, b < w0.heap.size → b ≠ G → some b ≠ v.ownBlock → (wm.setCell ⟨G, i, none⟩ v').heap[b]? = w0.heap[b]? := fun b hb hbG hbv => (hk b hbG).trans (p2.block b hb hbv)
  have hg : wm.grownBy (wm.setCell ⟨G, i, none⟩ v') (some G) := ⟨rfl, rfl, rfl, by simp [World.setCell], fun b _ hb => hk b (fun e => hb (by rw [e]))⟩
  refine ⟨⟨arr.setIfInBounds i v', v', by simp [World.setCell, Array.getElem?_modify, hm], by simpa using h2, set_same (by omega), p1.aside hg (fun k e => by cases e; omega), fun g hg' => ?_, fun j hj hji => ?_, fun j hj => (set_other (by omega)).trans (h7 j hj)⟩, hkk⟩
  · rcases p3 with e | ⟨g', e, hg''⟩
    · exact h5 g (by rw [← e]; exact hg')
    · rw [e] at hg'; cases hg'; exact ⟨by omega, hQ _ hg''⟩
  · obtain ⟨u, e1, e2⟩ := h6 j hj hji
    exact ⟨u, (set_other hji).trans e1, e2.keep fun b hb => ⟨hb, hkk b (by omega) (by omega) (fun e => by have := (h5 b e.symm).1; omega)⟩⟩
theorem TabC.close {x : Lx.Lexicon} {most : Nat} {forms : Nat → Nat → List Lx.Form} (h : TabC w G n S i Q (Lx.rtabT x most forms n k) l) (hi : i = n - (k + 1)) (_hk : k + 1 ≤ n) (hl : l = Lx.rtabT x most forms n (k + 1) i) (hS : S ≤ w.heap.size) : RdTb w G n (k + 1) (Lx.rtabT x most forms n (k + 1)) := by
  obtain ⟨arr, v, h1, h2, h3, h4, h5, h6, h7⟩ := h
  refine ⟨arr, h1, h2, fun j hj => ?_, fun j hj => h7 j (by omega)⟩
  by_cases hji : j = i
  · subst hji
    rw [← hl]
    exact ⟨v, h3, h4.rd.keep fun b hb => ⟨⟨by omega, hb.1⟩, rfl⟩⟩
  · obtain ⟨u, e1, e2⟩ := h6 j hj hji
    rw [Lx.rtab_other (by omega)]
    exact ⟨u, e1, e2.keep fun b hb => ⟨⟨hb.1, by omega⟩, rfl⟩⟩
end
end Go.Proofs.YtpmfjndbckblfaaDoor
