/- ostraconref05.begins and tails. Made by gen_rtails.py. -/
import Derived.Test.YtkmimjngmfdpmaaGreatDoorMgBegin
import Derived.Test.YtkmimjngmfdpmaaGreatDoorMgSgRead
import Derived.Test.YtkmimjngmfdpmaaGreatDoorMgIdle
import Derived.Test.YtkmimjngmfdpmaaGreatDoorMgMatchPlain
namespace Go.Proofs.YtkmimjngmfdpmaaGreatDoor
open Go.RowKit

/-- lists of numbers -/
def KInts : RowK (List Int) where
  size := 1
  rd w ok cs l := ∃ v, cs = [v] ∧ RdX w ok 1 encInt v l
  len := by rintro w ok cs f ⟨s, rfl, _⟩; rfl
  keep := by rintro w w' ok ok' cs f hk ⟨s, rfl, h⟩; exact ⟨s, rfl, h.keep hk⟩
theorem info_sInt : (Tryz.prog.info? 42).map (fun i => (i.zero, i.size, i.bytes)) = some (some (.slice none 0 0), 1, 24) := by kernel_rfl
theorem keep_own {w w' : World} {base : Nat} {e : TypeId} {size n : Nat} {v : Value} {xs : List Value} (h : w.ownsRow base e size v n xs) (hb : Below w.heap.size w w') : w'.ownsRow base e size v n xs := h.kept (grown_of_below (row := none) hb) (by
  rcases h.2 with ⟨e, _⟩ | ⟨g, cap, cur, e, _⟩
  · rw [e]; exact .inl rfl
  · rw [e]; exact .inr (by simp [Value.ownBlock]))
theorem start_res2 (w : World) (A B : Obj) : ((w.alloc A).alloc B).heap[w.heap.size + 1]? = some B := by
  have q := heap_alloc_new (w.alloc A) B
  have hs : (w.alloc A).heap.size = w.heap.size + 1 := by simp
  rw [hs] at q
  exact q
/-- what reads as rows, as slices -/
theorem rdg_rows {w : World} {ok : Nat → Prop} {v : Value} {ls : List (List Int)} (h : RdG KInts w ok v ls) (hB : ∀ b, ok b → b < w.heap.size) :
    ∃ ys : List (Option Addr × Nat × Nat), ys.length = ls.length ∧ RdS w w.heap.size 1 encSl v ys ∧ grows KInts w ok (ys.flatMap encSl) ls := by
  obtain ⟨A, c, hv, hl, hc, hh⟩ := h
  by_cases h0 : 0 < ls.length
  · obtain ⟨b, off, hA, hb, hcell⟩ := hh h0
    have hex : ∀ i, ∃ y : Option Addr × Nat × Nat, ∀ l, ls[i]? = some l → w.cell? ⟨b, off + i, none⟩ = some (.slice y.1 y.2.1 y.2.2) ∧ RdX w ok 1 encInt (.slice y.1 y.2.1 y.2.2) l := by
      intro i
      cases hi : ls[i]? with
      | none => exact ⟨(none, 0, 0), fun l h => by cases h⟩
      | some l =>
        obtain ⟨cs, ⟨u, rfl, hr⟩, hce⟩ := hcell i l hi
        obtain ⟨A', c', rfl, hr'⟩ := hr
        refine ⟨(A', l.length, c'), fun l' hl' => ?_⟩
        cases hl'
        have := hce 0 _ rfl
        exact ⟨by simpa [KInts] using this, A', c', rfl, hr'⟩
    obtain ⟨f, hf⟩ := Classical.axiomOfChoice hex
    have hlen : ((List.range ls.length).map f).length = ls.length := by simp
    refine ⟨(List.range ls.length).map f, hlen, ⟨A, c, by rw [hv, hlen], by rw [hlen]; exact hl, hc, fun _ => ⟨b, off, hA, hB b hb, fun i y hy j u hj => ?_⟩⟩, ?_⟩
    · rw [List.getElem?_map] at hy
      by_cases hi : i < ls.length
      · rw [List.getElem?_range hi] at hy
        simp at hy
        subst hy
        have hj0 : j = 0 := by
          have := (List.getElem?_eq_some_iff.1 hj).1
          simp [encSl] at this
          exact this
        subst hj0
        simp [encSl] at hj
        subst hj
        have := (hf i ls[i] (List.getElem?_eq_getElem hi)).1
        simpa using this
      · rw [List.getElem?_eq_none (by simp; omega)] at hy; cases hy
    · have key : ∀ n, n ≤ ls.length → grows KInts w ok (((List.range n).map f).flatMap encSl) (ls.take n) := by
        intro n
        induction n with
        | zero => intro _; simp; exact .nil
        | succ n ih =>
          intro hn
          rw [List.range_succ, List.map_append, List.flatMap_append, List.take_succ_eq_append_getElem (by omega)]
          have := (ih (by omega)).snoc (K := KInts) (c := encSl (f n)) (a := ls[n]) ⟨_, rfl, (hf n ls[n] (List.getElem?_eq_getElem (by omega))).2⟩
          simpa using this
      have := key ls.length (Nat.le_refl _)
      rwa [List.take_length] at this
  · have : ls = [] := List.eq_nil_of_length_eq_zero (by omega)
    subst this
    exact ⟨[], rfl, ⟨A, c, hv, hl, hc, fun h => absurd h (by simp)⟩, .nil⟩
/-- appended: more than one -/
theorem grows.append {α : Type} {K : RowK α} {w : World} {ok : Nat → Prop} {cs cs' : List Value} {xs ys : List α} (h : grows K w ok cs xs) (h' : grows K w ok cs' ys) : grows K w ok (cs ++ cs') (xs ++ ys) := by
  induction h with
  | nil => exact h'
  | cons h _ ih => rw [List.append_assoc]; exact .cons h ih
theorem OwnG.more {α : Type} {K : RowK α} {e : TypeId} {w w' : World} {base : Nat} {v v' : Value} {xs ys : List α} {cells cs : List Value} (h2 : grows K w (fun b => b < w.heap.size ∧ v.ownBlock ≠ some b ∧ base ≤ b) cells xs)
    (hm : grows K w (fun b => b < w.heap.size ∧ v.ownBlock ≠ some b ∧ base ≤ b) cs ys) (hown : w'.ownsRow base e K.size v' (xs.length + ys.length) (cells ++ cs)) (hg : w.grownBy w' v.ownBlock)
    (hat : v'.ownBlock = v.ownBlock ∨ ∃ g, v'.ownBlock = some g ∧ w.heap.size ≤ g) : OwnG K e w' base v' (xs ++ ys) := by
  have hk : ∀ b, (b < w.heap.size ∧ v.ownBlock ≠ some b ∧ base ≤ b) → (b < w'.heap.size ∧ v'.ownBlock ≠ some b ∧ base ≤ b) ∧ w'.heap[b]? = w.heap[b]? := by
    intro b ⟨hb, hne, hbs⟩
    refine ⟨⟨Nat.lt_of_lt_of_le hb hg.size, ?_, hbs⟩, hg.block b hb (fun e => hne e.symm)⟩
    rcases hat with e | ⟨g, e, hge⟩
    · rw [e]; exact hne
    · rw [e]; intro q; cases q; omega
  exact ⟨_, by rw [List.length_append]; exact hown, (h2.append hm).keep hk⟩
theorem all15 {p : Nat → Prop} (l4 : p 4 → p 2 ∧ p 3) (l6 : p 6 → p 5) (l7 : p 7 → p 4 ∧ p 6) (l9 : p 9 → p 8) (l12 : p 12 → p 11) (l13 : p 13 → p 10 ∧ p 12) (l14 : p 14 → p 1 ∧ p 7 ∧ p 9 ∧ p 13) (d0 : p 0) (d14 : p 14) : ∀ j, j < 15 → p j := by
  intro j hj
  obtain ⟨d1, d7, d9, d13⟩ := l14 d14
  obtain ⟨d4, d6⟩ := l7 d7
  obtain ⟨d2, d3⟩ := l4 d4
  obtain ⟨d10, d12⟩ := l13 d13
  have d5 := l6 d6
  have d8 := l9 d9
  have d11 := l12 d12
  have : j = 0 ∨ j = 1 ∨ j = 2 ∨ j = 3 ∨ j = 4 ∨ j = 5 ∨ j = 6 ∨ j = 7 ∨ j = 8 ∨ j = 9 ∨ j = 10 ∨ j = 11 ∨ j = 12 ∨ j = 13 ∨ j = 14 := by omega
  rcases this with rfl | rfl | rfl | rfl | rfl | rfl | rfl | rfl | rfl | rfl | rfl | rfl | rfl | rfl | rfl <;> assumption
structure RtR (T0 : Array Value) (W0 : World) (B b4 c : Nat) (begun : List Int) (t g : ByteArray) (xv vb v : Value) (ls out : List (List Int)) (d : Array Bool) (a : Array Value) (wc : World) : Prop where
  siz : a.size = 55
  kp : ∀ i, i < 9 ∨ (11 < i ∧ i < 17) ∨ i = 54 → a[i]? = T0[i]?
  bel : ¬ dn d 15 → Below W0.heap.size W0 wc
  k1 : a[1]? = some (vb)
  k3 : a[3]? = some (.string t)
  k4 : a[4]? = some (.pointer (some ⟨b4, 0, none⟩))
  k9 : ¬ dn d 16 → a[9]? = some v
  k10 : a[10]? = some (.int .i64 (c : Int))
  k11 : a[11]? = some (.string g)
  p0 : dn d 0 → a[38]? = some (v)
  p1 : dn d 1 → a[39]? = some (xv)
  p3 : dn d 3 → a[41]? = some (vb)
  p5 : dn d 5 → a[43]? = some (.int .i64 (c : Int))
  p8 : dn d 8 → a[46]? = some (.int .i64 (c : Int))
  p9 : dn d 9 → a[47]? = some (.int .i64 ((c : Int) + 1))
  p10 : dn d 10 → a[48]? = some (.string t)
  p11 : dn d 11 → a[49]? = some (.string g)
  p12 : dn d 12 → a[50]? = some (.int .i64 (g.size : Int))
  p13 : dn d 13 → a[51]? = some (.string (t.extract g.size t.size))
  p2 : dn d 2 → ¬ dn d 4 → ∃ ga, a[40]? = some (.slice (some ⟨ga, 0, none⟩) 0 0) ∧ ga < wc.heap.size ∧ wc.ownsRow W0.heap.size 3 1 (.slice (some ⟨ga, 0, none⟩) 0 0) 0 [] ∧
    ∀ gb, a[44]? = some (.slice (some ⟨gb, 0, none⟩) 1 1) → dn d 6 → ga ≠ gb
  p4 : dn d 4 → ¬ dn d 7 → ∃ u, a[42]? = some u ∧ wc.ownsRow W0.heap.size 3 1 u begun.length (begun.flatMap encInt)
  p6 : dn d 6 → ¬ dn d 7 → ∃ gb, a[44]? = some (.slice (some ⟨gb, 0, none⟩) 1 1) ∧ gb < wc.heap.size ∧ wc.heap[gb]? = some (.cells #[.int .i64 (c : Int)] 3 (0, 0))
  p7 : dn d 7 → ¬ dn d 14 → ∃ u, a[45]? = some u ∧ RdX wc (fun b => b < wc.heap.size ∧ W0.heap.size ≤ b) 1 encInt u (begun ++ [(c : Int)])
  p14 : dn d 14 → ¬ dn d 15 → ∃ u, a[52]? = some u ∧ RdG KInts wc (fun b => b < wc.heap.size ∧ W0.heap.size ≤ b) u ls
  l15 : dn d 15 → ∀ j, j < 15 → dn d j
  l16 : dn d 16 → dn d 15
  p15 : dn d 15 → ∃ A n c, a[53]? = some (.slice A n c) ∧ OwnG KInts 42 wc B (.slice A n c) (out ++ ls) ∧ W0.grownBy wc v.ownBlock ∧
    (dn d 16 → a[9]? = some (.slice A n c))
  l4 : dn d 4 → dn d 2 ∧ dn d 3
  l6 : dn d 6 → dn d 5
  l7 : dn d 7 → dn d 4 ∧ dn d 6
  l9 : dn d 9 → dn d 8
  l12 : dn d 12 → dn d 11
  l13 : dn d 13 → dn d 10 ∧ dn d 12
  l14 : dn d 14 → dn d 1 ∧ dn d 7 ∧ dn d 9 ∧ dn d 13
def RtI (T0 : Array Value) (W0 : World) (B b4 c : Nat) (begun : List Int) (t g : ByteArray) (xv vb v : Value) (ls out : List (List Int)) (d : Array Bool) (a : Act) (wc : World) : Prop := ∃ t' : Array Value, a = ⟨t', []⟩ ∧ RtR T0 W0 B b4 c begun t g xv vb v ls out d t' wc

theorem pre_cmp (t p : ByteArray) : ((t.extract 0 p.size).data.toList == p.data.toList) = p.data.toList.isPrefixOf t.data.toList := by
  have e : (t.extract 0 p.size).data.toList = t.data.toList.take p.data.toList.length := by
    simp [ByteArray.data_extract]
  rw [e, Bool.eq_iff_iff, List.isPrefixOf_iff_prefix]
  rw [List.prefix_iff_eq_take]
  simp
  exact eq_comm
theorem pre_long {t p : ByteArray} (h : ¬ p.size ≤ t.size) : p.data.toList.isPrefixOf t.data.toList = false := by
  cases hq : p.data.toList.isPrefixOf t.data.toList
  · rfl
  · have := (List.isPrefixOf_iff_prefix.1 hq).length_le
    have e1 : p.data.toList.length = p.size := rfl
    have e2 : t.data.toList.length = t.size := rfl
    omega





end Go.Proofs.YtkmimjngmfdpmaaGreatDoor
