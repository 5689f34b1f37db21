/- ostraconref05.begins and tails. Made by gen_rtails.py. -/
import Derived.Test.YtpmfjndbckblfaaDoorMgTable
import Derived.Test.YtpmfjndbckblfaaDoorMgBegin
import Derived.Test.YtpmfjndbckblfaaDoorMgRowKit
import Derived.Test.YtpmfjndbckblfaaDoorMgRegion2
import Derived.Test.YtpmfjndbckblfaaDoorMgClone
namespace Go.Proofs.YtpmfjndbckblfaaDoor
open Go.RowKit

/-- lists of numbers -/
def KInts : RowK (List Int) where
  size := 1
  rd w ok cs l := ∃ v, cs = [v] ∧ RdX w ok 1 encInt v l
  len := by rintro w ok cs f ⟨s, rfl, _⟩; rfl
  keep := by rintro w w' ok ok' cs f hk ⟨s, rfl, h⟩; exact ⟨s, rfl, h.keep hk⟩
theorem info_sInt : (Tryd.prog.info? 27).map (fun i => (i.zero, i.size, i.bytes)) = some (some (.slice none 0 0), 1, 24) := by kernel_rfl
theorem keep_own {w w' : World} {base : Nat} {e : TypeId} {size n : Nat} {v : Value} {xs : List Value} (h : w.ownsRow base e size v n xs) (hb : Below w.heap.size w w') : w'.ownsRow base e size v n xs := h.kept (grown_of_below (row := none) hb) (by
  rcases h.2 with ⟨e, _⟩ | ⟨g, cap, cur, e, _⟩
  · rw [e]; exact .inl rfl
  · rw [e]; exact .inr (by simp [Value.ownBlock]))
theorem start_res2 (w : World) (A B : Obj) : ((w.alloc A).alloc B).heap[w.heap.size + 1]? = some B := by
  have q := heap_alloc_new (w.alloc A) B
  have hs : (w.alloc A).heap.size = w.heap.size + 1 := by simp
  rw [hs] at q
  exact q
/-- what reads as rows, as slices -/
theorem rdg_rows {w : World} {ok : Nat → Prop} {v : Value} {ls : List (List Int)} (h : RdG KInts w ok v ls) (hB : ∀ b, ok b → b < w.heap.size) :
    ∃ ys : List (Option Addr × Nat × Nat), ys.length = ls.length ∧ RdS w w.heap.size 1 encSl v ys ∧ grows KInts w ok (ys.flatMap encSl) ls := by
  obtain ⟨A, c, hv, hl, hc, hh⟩ := h
  by_cases h0 : 0 < ls.length
  · obtain ⟨b, off, hA, hb, hcell⟩ := hh h0
    have hex : ∀ i, ∃ y : Option Addr × Nat × Nat, ∀ l, ls[i]? = some l → w.cell? ⟨b, off + i, none⟩ = some (.slice y.1 y.2.1 y.2.2) ∧ RdX w ok 1 encInt (.slice y.1 y.2.1 y.2.2) l := by
      intro i
      cases hi : ls[i]? with
      | none => exact ⟨(none, 0, 0), fun l h => by cases h⟩
      | some l =>
        obtain ⟨cs, ⟨u, rfl, hr⟩, hce⟩ := hcell i l hi
        obtain ⟨A', c', rfl, hr'⟩ := hr
        refine ⟨(A', l.length, c'), fun l' hl' => ?_⟩
        cases hl'
        have := hce 0 _ rfl
        exact ⟨by simpa [KInts] using this, A', c', rfl, hr'⟩
    obtain ⟨f, hf⟩ := Classical.axiomOfChoice hex
    have hlen : ((List.range ls.length).map f).length = ls.length := by simp
    refine ⟨(List.range ls.length).map f, hlen, ⟨A, c, by rw [hv, hlen], by rw [hlen]; exact hl, hc, fun _ => ⟨b, off, hA, hB b hb, fun i y hy j u hj => ?_⟩⟩, ?_⟩
    · rw [List.getElem?_map] at hy
      by_cases hi : i < ls.length
      · rw [List.getElem?_range hi] at hy
        simp at hy
        subst hy
        have hj0 : j = 0 := by
          have := (List.getElem?_eq_some_iff.1 hj).1
          simp [encSl] at this
          exact this
        subst hj0
        simp [encSl] at hj
        subst hj
        have := (hf i ls[i] (List.getElem?_eq_getElem hi)).1
        simpa using this
      · rw [List.getElem?_eq_none (by simp; omega)] at hy; cases hy
    · have key : ∀ n, n ≤ ls.length → grows KInts w ok (((List.range n).map f).flatMap encSl) (ls.take n) := by
        intro n
        induction n with
        | zero => intro _; simp; exact .nil
        | succ n ih =>
          intro hn
          rw [List.range_succ, List.map_append, List.flatMap_append, List.take_succ_eq_append_getElem (by omega)]
          have := (ih (by omega)).snoc (K := KInts) (c := encSl (f n)) (a := ls[n]) ⟨_, rfl, (hf n ls[n] (List.getElem?_eq_getElem (by omega))).2⟩
          simpa using this
      have := key ls.length (Nat.le_refl _)
      rwa [List.take_length] at this
  · have : ls = [] := List.eq_nil_of_length_eq_zero (by omega)
    subst this
    exact ⟨[], rfl, ⟨A, c, hv, hl, hc, fun h => absurd h (by simp)⟩, .nil⟩
/-- appended: more than one -/
theorem grows.append {α : Type} {K : RowK α} {w : World} {ok : Nat → Prop} {cs cs' : List Value} {xs ys : List α} (h : grows K w ok cs xs) (h' : grows K w ok cs' ys) : grows K w ok (cs ++ cs') (xs ++ ys) := by
  induction h with
  | nil => exact h'
  | cons h _ ih => rw [List.append_assoc]; exact .cons h ih
theorem OwnG.more {α : Type} {K : RowK α} {e : TypeId} {w w' : World} {base : Nat} {v v' : Value} {xs ys : List α} {cells cs : List Value} (h2 : grows K w (fun b => b < w.heap.size ∧ v.ownBlock ≠ some b ∧ base ≤ b) cells xs)
    (hm : grows K w (fun b => b < w.heap.size ∧ v.ownBlock ≠ some b ∧ base ≤ b) cs ys) (hown : w'.ownsRow base e K.size v' (xs.length + ys.length) (cells ++ cs)) (hg : w.grownBy w' v.ownBlock)
    (hat : v'.ownBlock = v.ownBlock ∨ ∃ g, v'.ownBlock = some g ∧ w.heap.size ≤ g) : OwnG K e w' base v' (xs ++ ys) := by
  have hk : ∀ b, (b < w.heap.size ∧ v.ownBlock ≠ some b ∧ base ≤ b) → (b < w'.heap.size ∧ v'.ownBlock ≠ some b ∧ base ≤ b) ∧ w'.heap[b]? = w.heap[b]? := by
    intro b ⟨hb, hne, hbs⟩
    refine ⟨⟨Nat.lt_of_lt_of_le hb hg.size, ?_, hbs⟩, hg.block b hb (fun e => hne e.symm)⟩
    rcases hat with e | ⟨g, e, hge⟩
    · rw [e]; exact hne
    · rw [e]; intro q; cases q; omega
  exact ⟨_, by rw [List.length_append]; exact hown, (h2.append hm).keep hk⟩
theorem all15 {p : Nat → Prop} (l4 : p 4 → p 2 ∧ p 3) (l6 : p 6 → p 5) (l7 : p 7 → p 4 ∧ p 6) (l9 : p 9 → p 8) (l12 : p 12 → p 11) (l13 : p 13 → p 10 ∧ p 12) (l14 : p 14 → p 1 ∧ p 7 ∧ p 9 ∧ p 13) (d0 : p 0) (d14 : p 14) : ∀ j, j < 15 → p j := by
  intro j hj
  obtain ⟨d1, d7, d9, d13⟩ := l14 d14
  obtain ⟨d4, d6⟩ := l7 d7
  obtain ⟨d2, d3⟩ := l4 d4
  obtain ⟨d10, d12⟩ := l13 d13
  have d5 := l6 d6
  have d8 := l9 d9
  have d11 := l12 d12
  have : j = 0 ∨ j = 1 ∨ j = 2 ∨ j = 3 ∨ j = 4 ∨ j = 5 ∨ j = 6 ∨ j = 7 ∨ j = 8 ∨ j = 9 ∨ j = 10 ∨ j = 11 ∨ j = 12 ∨ j = 13 ∨ j = 14 := by omega
  rcases this with rfl | rfl | rfl | rfl | rfl | rfl | rfl | rfl | rfl | rfl | rfl | rfl | rfl | rfl | rfl <;> assumption
structure RtR (T0 : Array Value) (W0 : World) (B b4 c : Nat) (begun : List Int) (t g : ByteArray) (xv vb v : Value) (ls out : List (List Int)) (d : Array Bool) (a : Array Value) (wc : World) : Prop where
  siz : a.size = 55
  kp : ∀ i, i < 9 ∨ (11 < i ∧ i < 17) ∨ i = 54 → a[i]? = T0[i]?
  bel : ¬ dn d 15 → Below W0.heap.size W0 wc
  k1 : a[1]? = some (vb)
  k3 : a[3]? = some (.string t)
  k4 : a[4]? = some (.pointer (some ⟨b4, 0, none⟩))
  k9 : ¬ dn d 16 → a[9]? = some v
  k10 : a[10]? = some (.int .i64 (c : Int))
  k11 : a[11]? = some (.string g)
  p0 : dn d 0 → a[38]? = some (v)
  p1 : dn d 1 → a[39]? = some (xv)
  p3 : dn d 3 → a[41]? = some (vb)
  p5 : dn d 5 → a[43]? = some (.int .i64 (c : Int))
  p8 : dn d 8 → a[46]? = some (.int .i64 (c : Int))
  p9 : dn d 9 → a[47]? = some (.int .i64 ((c : Int) + 1))
  p10 : dn d 10 → a[48]? = some (.string t)
  p11 : dn d 11 → a[49]? = some (.string g)
  p12 : dn d 12 → a[50]? = some (.int .i64 (g.size : Int))
  p13 : dn d 13 → a[51]? = some (.string (t.extract g.size t.size))
  p2 : dn d 2 → ¬ dn d 4 → ∃ ga, a[40]? = some (.slice (some ⟨ga, 0, none⟩) 0 0) ∧ ga < wc.heap.size ∧ wc.ownsRow W0.heap.size 3 1 (.slice (some ⟨ga, 0, none⟩) 0 0) 0 [] ∧
    ∀ gb, a[44]? = some (.slice (some ⟨gb, 0, none⟩) 1 1) → dn d 6 → ga ≠ gb
  p4 : dn d 4 → ¬ dn d 7 → ∃ u, a[42]? = some u ∧ wc.ownsRow W0.heap.size 3 1 u begun.length (begun.flatMap encInt)
  p6 : dn d 6 → ¬ dn d 7 → ∃ gb, a[44]? = some (.slice (some ⟨gb, 0, none⟩) 1 1) ∧ gb < wc.heap.size ∧ wc.heap[gb]? = some (.cells #[.int .i64 (c : Int)] 3 (0, 0))
  p7 : dn d 7 → ¬ dn d 14 → ∃ u, a[45]? = some u ∧ RdX wc (fun b => b < wc.heap.size ∧ W0.heap.size ≤ b) 1 encInt u (begun ++ [(c : Int)])
  p14 : dn d 14 → ¬ dn d 15 → ∃ u, a[52]? = some u ∧ RdG KInts wc (fun b => b < wc.heap.size ∧ W0.heap.size ≤ b) u ls
  l15 : dn d 15 → ∀ j, j < 15 → dn d j
  l16 : dn d 16 → dn d 15
  p15 : dn d 15 → ∃ A n c, a[53]? = some (.slice A n c) ∧ OwnG KInts 27 wc B (.slice A n c) (out ++ ls) ∧ W0.grownBy wc v.ownBlock ∧
    (dn d 16 → a[9]? = some (.slice A n c))
  l4 : dn d 4 → dn d 2 ∧ dn d 3
  l6 : dn d 6 → dn d 5
  l7 : dn d 7 → dn d 4 ∧ dn d 6
  l9 : dn d 9 → dn d 8
  l12 : dn d 12 → dn d 11
  l13 : dn d 13 → dn d 10 ∧ dn d 12
  l14 : dn d 14 → dn d 1 ∧ dn d 7 ∧ dn d 9 ∧ dn d 13
def RtI (T0 : Array Value) (W0 : World) (B b4 c : Nat) (begun : List Int) (t g : ByteArray) (xv vb v : Value) (ls out : List (List Int)) (d : Array Bool) (a : Act) (wc : World) : Prop := ∃ t' : Array Value, a = ⟨t', []⟩ ∧ RtR T0 W0 B b4 c begun t g xv vb v ls out d t' wc

theorem pre_cmp (t p : ByteArray) : ((t.extract 0 p.size).data.toList == p.data.toList) = p.data.toList.isPrefixOf t.data.toList := by
  have e : (t.extract 0 p.size).data.toList = t.data.toList.take p.data.toList.length := by
    simp [ByteArray.data_extract]
  rw [e, Bool.eq_iff_iff, List.isPrefixOf_iff_prefix]
  rw [List.prefix_iff_eq_take]
  simp
  exact eq_comm
theorem pre_long {t p : ByteArray} (h : ¬ p.size ≤ t.size) : p.data.toList.isPrefixOf t.data.toList = false := by
  cases hq : p.data.toList.isPrefixOf t.data.toList
  · rfl
  · have := (List.isPrefixOf_iff_prefix.1 hq).length_le
    have e1 : p.data.toList.length = p.size := rfl
    have e2 : t.data.toList.length = t.size := rfl
    omega

set_option maxRecDepth 100000 in
theorem rbegins_any (t p : ByteArray) (w : World) (_ht : t.size ≤ maxLen) (_hp : p.size ≤ maxLen) : Calls Tryd.prog 91 #[.string t, .string p] w (RetB (p.data.toList.isPrefixOf t.data.toList) w) := by
  by_cases h : p.size ≤ t.size
  · have HE := Lib.hid (pre_cmp t p)
    go_enter Tryd.func91, Tryd.ntmps91
    go_wp2_with fail
    go_ret
    refine ⟨ret_bool ?_, rfl⟩
    rw [← HE.out, Lib.toList_data, Lib.toList_data]
  · have HE := Lib.hid (pre_long h)
    go_enter Tryd.func91, Tryd.ntmps91
    go_wp2_with fail
    go_ret
    exact ⟨ret_bool HE.out.symm, rfl⟩

/-- What tails does, for one number of clitics that may still come. -/
def TailsSays (x : Lx.Lexicon) (k : Nat) : Prop :=
  ∀ (begun : List Int) (first : Nat) (t : ByteArray) (ok : Nat → Prop) (vx vb : Value) (w : World), begun.length + k = 3 → first ≤ x.clitics.length → t.size ≤ 1000 → RdL w w.heap.size vx x → (∀ b, ok b → b < w.heap.size) → RdX w ok 1 encInt vb begun →
    Calls Tryd.prog 101 #[vx, vb, .int .i64 first, .string t] w (fun e w' => ∃ v, e = .returned v ∧ RdG KInts w' (fun b => b < w'.heap.size ∧ (ok b ∨ w.heap.size ≤ b)) v (Lx.tailsV x k begun first t.data.toList) ∧ Below w.heap.size w w')

set_option maxRecDepth 100000 in
set_option maxHeartbeats 4000000 in
theorem tails_step (x : Lx.Lexicon) (hchk : Lx.checkV x = 0) (k : Nat) (ih : ∀ k', k = k' + 1 → TailsSays x k') : TailsSays x k := by
  intro begun first t ok vx vb w hlen hfi hts hr hok hvb
  have IH := Lib.hid ih
  have HR := Lib.hid hr
  have HVB := Lib.hid hvb
  have HOK := Lib.hid hok
  have HCHK := Lib.hid hchk
  clear ih hchk
  obtain ⟨⟨v0, v1, v2, rfl, ⟨A0, c0, rfl, -⟩, ⟨A1, c1, rfl, -⟩, ⟨A2, c2, rfl, hl2, hm2, hc2⟩⟩, -, -, -⟩ := hr
  obtain ⟨Ab, cb, rfl, -⟩ := hvb
  have hn2 : x.clitics.length ≤ 9223372036854775807 := by omega
  have HC2 := Lib.hid hc2
  clear hc2 hl2 hm2 hok
  have ht0 : t.size ≤ 9223372036854775807 := by omega
  obtain ⟨i1, hi1, hz1, hs1, hb1⟩ := info_parts info_int
  obtain ⟨i9, hi9, hz9, hs9, hb9⟩ := info_parts info_sInt
  by_cases hte : t.size = 0
  · have htn : t.data.toList = [] := List.eq_nil_of_length_eq_zero hte
    have hT : (t.toList == []) = true := by rw [Lib.toList_data, htn]; rfl
    have HF : Hid (Lx.tailsV x k begun first t.data.toList = [begun]) := Lib.hid (by rw [htn]; exact Lx.tailsV_nil _ _ _ _)
    clear htn hte
    go_enter Tryd.func101, Tryd.ntmps101
    go_wp2_with fail
    have hal : Below w.heap.size w ((w.alloc (.cells #[.slice A0 x.entries.length c0, .slice A1 x.endings.length c1, .slice A2 x.clitics.length c2] 26)).alloc (.cells #[.slice Ab begun.length cb] 27)) := ((Below.refl _ _).alloc (Nat.le_refl _) _).alloc (by simp) _
    have hnew := start_res2 w (.cells #[.slice A0 x.entries.length c0, .slice A1 x.endings.length c1, .slice A2 x.clitics.length c2] 26) (.cells #[.slice Ab begun.length cb] 27)
    have HX : Hid (RdG KInts ((w.alloc (.cells #[.slice A0 x.entries.length c0, .slice A1 x.endings.length c1, .slice A2 x.clitics.length c2] 26)).alloc (.cells #[.slice Ab begun.length cb] 27)) (fun b => b < ((w.alloc (.cells #[.slice A0 x.entries.length c0, .slice A1 x.endings.length c1, .slice A2 x.clitics.length c2] 26)).alloc (.cells #[.slice Ab begun.length cb] 27)).heap.size ∧ (ok b ∨ w.heap.size ≤ b)) (.slice (some ⟨w.heap.size + 1, 0, none⟩) 1 1) [begun]) := Lib.hid
      ⟨_, 1, rfl, Nat.le_refl 1, by decide, fun _ => ⟨w.heap.size + 1, 0, rfl, ⟨by simp, .inr (by omega)⟩, fun i a ha => by
        cases i with
        | succ i => simp at ha
        | zero =>
          simp at ha
          subst ha
          refine ⟨[.slice Ab begun.length cb], ⟨_, rfl, HVB.out.keep (fun b hb => ⟨⟨by have := HOK.out b hb; simp; omega, .inl hb⟩, hal.block b (HOK.out b hb)⟩)⟩, fun j u hj => ?_⟩
          have hj0 : j = 0 := by
            have := (List.getElem?_eq_some_iff.1 hj).1
            simp at this
            exact this
          subst hj0
          simp at hj
          subst hj
          unfold World.cell?
          rw [hnew]
          simp [KInts]⟩⟩
    have HAL := Lib.hid hal
    clear hal hnew
    go_ret
    exact ⟨_, rfl, by rw [HF.out]; exact HX.out, HAL.out⟩
  · have htn : t.data.toList ≠ [] := fun e => hte (by have : t.data.toList.length = t.size := rfl; rw [← this, e]; rfl)
    have hT : (t.toList == []) = false := by rw [Lib.toList_data]; simpa using htn
    have HTN := Lib.hid htn
    have hn10 : x.clitics.length ≤ 10 := by
      have := (Lx.check_parts HCHK.out).1
      simp [Lx.tooMany] at this
      omega
    clear htn hte
    go_enter Tryd.func101, Tryd.ntmps101
    go_wp2_with fail
    go_loopg [9, 10] (x.clitics.length - first) (fun g v i wr => ∃ j : Nat, first ≤ j ∧ j ≤ x.clitics.length ∧ (k = 0 → j = first) ∧ g = x.clitics.length - j ∧ i = .int .i64 j ∧ (∃ A n c, v = .slice A n c) ∧ OwnG KInts 27 wr (w.heap.size + 1) v (Lx.tailsTo x (k - 1) begun t.data.toList first j) ∧
      Below w.heap.size w wr ∧ w.heap.size + 1 ≤ wr.heap.size ∧ wr.heap[w.heap.size]? = some (.cells #[.slice A0 x.entries.length c0, .slice A1 x.endings.length c1, .slice A2 x.clitics.length c2] 26 (0, 0)))
    case atStart => exact ⟨first, Nat.le_refl _, hfi, fun _ => rfl, rfl, rfl, ⟨_, _, _, rfl⟩, by rw [Lx.tailsTo_self]; exact OwnG.nil _ _ _, (Below.refl _ _).alloc (Nat.le_refl _) _, by simp, heap_alloc_new _ _⟩
    case round =>
      obtain ⟨j, hj1, hj2, hk0, rfl, rfl, ⟨Av, nv, cv, rfl⟩, hog, hbel, hsz, hx⟩ := hrel
      have x0 : wr.cell? ⟨w.heap.size, 0, none⟩ = some (.slice A0 x.entries.length c0) := by simp [World.cell?, hx]
      have x1 : wr.cell? ⟨w.heap.size, 1, none⟩ = some (.slice A1 x.endings.length c1) := by simp [World.cell?, hx]
      have x2 : wr.cell? ⟨w.heap.size, 2, none⟩ = some (.slice A2 x.clitics.length c2) := by simp [World.cell?, hx]
      have HOG := Lib.hid hog
      have HBEL := Lib.hid hbel
      have HX := Lib.hid hx
      clear hog hbel hx
      by_cases hgo : j < x.clitics.length ∧ begun.length < 3
      · obtain ⟨hlt, hl3⟩ := hgo
        obtain ⟨K, rfl⟩ : ∃ K, k = K + 1 := ⟨k - 1, by omega⟩
        obtain ⟨b2, off2, rfl, hb2, hcell2⟩ := HC2.out (by omega)
        obtain ⟨g, hg⟩ : ∃ g, x.clitics[j]? = some g := ⟨_, List.getElem?_eq_getElem hlt⟩
        have g0 : wr.cell? ⟨b2, off2 + j * 3, none⟩ = some (.string g.text) := (HBEL.out.cell hb2).trans (hcell2 _ g hg 0 _ rfl)
        have hg4 := (Lx.ok_clitic (Lx.good_at (Lx.check_parts HCHK.out).2.2.2 hg)).2.1
        have HG := Lib.hid hg
        have hjI : (j : Int) < (x.clitics.length : Int) := by omega
        have hlI : (begun.length : Int) < 3 := by omega
        clear hcell2 hg
        go_wp2_with fail
        cases hp : g.text.data.toList.isPrefixOf t.data.toList
        · have HN : Hid (Lx.tailsTo x (K + 1 - 1) begun t.data.toList first (j + 1) = Lx.tailsTo x (K + 1 - 1) begun t.data.toList first j) := Lib.hid (by
            rw [Lx.tailsTo_succ hj1, Lx.tailC, HG.out]; simp [hp])
          have HP := Lib.hid hp
          clear hp
          refine (rbegins_any t g.text wr (by simp only [maxLen]; omega) (by simp only [maxLen]; omega)).mono ?_
          rw [HP.out]
          rintro e1 w2 ⟨rfl, rfl⟩
          go_wp2_with fail
          go_roundg (x.clitics.length - (j + 1))
          case measure => omega
          case rel => exact ⟨j + 1, by omega, by omega, (fun h => by omega), rfl, by go_num, ⟨_, _, _, rfl⟩, by rw [HN.out]; exact HOG.out, HBEL.out, hsz, HX.out⟩
        · have HN : Hid (Lx.tailsTo x (K + 1 - 1) begun t.data.toList first (j + 1) = Lx.tailsTo x (K + 1 - 1) begun t.data.toList first j ++ Lx.tailsV x K (begun ++ [(j : Int)]) (j + 1) (t.data.toList.drop g.text.size)) := Lib.hid (by
            rw [Lx.tailsTo_succ hj1, Lx.tailC, HG.out]; simp [hp])
          have HP := Lib.hid hp
          have hgt : g.text.size ≤ t.size := by
            rcases Nat.lt_or_ge t.size g.text.size with q | q
            · rw [pre_long (by omega)] at hp; cases hp
            · exact q
          clear hp
          refine (rbegins_any t g.text wr (by simp only [maxLen]; omega) (by simp only [maxLen]; omega)).mono ?_
          rw [HP.out]
          rintro e1 w2 ⟨rfl, hw2⟩
          subst hw2
          go_wp2_with fail
          have hvlt : ∀ q, (Value.slice Av nv cv).ownBlock = some q → w.heap.size + 1 ≤ q ∧ q < wr.heap.size := HOG.out.lt
          obtain ⟨out, hout⟩ : ∃ out, out = Lx.tailsTo x (K + 1 - 1) begun t.data.toList first j := ⟨_, rfl⟩
          obtain ⟨ls, hls⟩ : ∃ ls, ls = Lx.tailsV x K (begun ++ [(j : Int)]) (j + 1) (t.data.toList.drop g.text.size) := ⟨_, rfl⟩
          have hol : out.length ≤ 20000 := by
            have h1 := Lx.tailsTo_len x hn10 (K + 1 - 1) begun t.data.toList first j
            have h2 : (j - first) * 11 ^ (K + 1 - 1) ≤ 10 * 11 ^ (K + 1 - 1) := Nat.mul_le_mul_right _ (by omega)
            have h3 : 11 ^ (K + 1 - 1) ≤ 11 ^ 3 := Nat.pow_le_pow_right (by omega) (by omega)
            rw [← hout] at h1
            omega
          have hll : ls.length ≤ 1331 := by
            have h1 := Lx.tailsV_len x hn10 K (begun ++ [(j : Int)]) (j + 1) (t.data.toList.drop g.text.size)
            have h3 : 11 ^ K ≤ 11 ^ 3 := Nat.pow_le_pow_right (by omega) (by omega)
            rw [← hls] at h1
            omega
          rw [← hout, ← hls] at HN
          rw [← hout] at HOG
          have OUT : Hid (OwnG KInts 27 wr (w.heap.size + 1) (.slice Av nv cv) out) := HOG
          have VB : Hid (∀ W, Below wr.heap.size wr W → RdS W W.heap.size 1 encInt (.slice Ab begun.length cb) begun) := Lib.hid fun W hW =>
            (HVB.out.keep (w' := W) (ok' := fun b => b < W.heap.size) (fun b hb => by
              have h1 := HOK.out b hb
              have h2 := HBEL.out.size
              have h3 := hW.size
              exact ⟨by omega, (hW.block b (by omega)).trans (HBEL.out.block b h1)⟩)).to (fun b hb => hb)
          have BX : Hid (∀ W, Below wr.heap.size wr W → W.cell? ⟨w.heap.size, 0, none⟩ = some (.slice A0 x.entries.length c0) ∧ W.cell? ⟨w.heap.size, 1, none⟩ = some (.slice A1 x.endings.length c1) ∧ W.cell? ⟨w.heap.size, 2, none⟩ = some (.slice (some ⟨b2, off2, none⟩) x.clitics.length c2)) := Lib.hid fun W hW => by
            have e := (hW.block w.heap.size (by omega)).trans HX.out
            exact ⟨by simp [World.cell?, e], by simp [World.cell?, e], by simp [World.cell?, e]⟩
          have HREC : Hid (∀ (W : World) (u : Value), Below wr.heap.size wr W → RdX W (fun b => b < W.heap.size ∧ wr.heap.size ≤ b) 1 encInt u (begun ++ [(j : Int)]) →
              Calls Tryd.prog 101 #[(.agg #[.slice A0 x.entries.length c0, .slice A1 x.endings.length c1, .slice (some ⟨b2, off2, none⟩) x.clitics.length c2]), u, .int .i64 ((j : Int) + 1), .string (t.extract g.text.size t.size)] W (fun e w' => ∃ v, e = .returned v ∧ RdG KInts w' (fun b => b < w'.heap.size ∧ wr.heap.size ≤ b) v ls ∧ Below W.heap.size W w')) := Lib.hid fun W u hW hu => by
            have hbw := HBEL.out.trans (hW.mono (by omega))
            have := (IH.out K rfl) (begun ++ [(j : Int)]) (j + 1) (t.extract g.text.size t.size) (fun b => b < W.heap.size ∧ wr.heap.size ≤ b) (.agg #[.slice A0 x.entries.length c0, .slice A1 x.endings.length c1, .slice (some ⟨b2, off2, none⟩) x.clitics.length c2]) u W (by simp; omega) (by omega) (by rw [ByteArray.size_extract]; omega) ((HR.out.below hbw).more hbw.size) (fun b hb => hb.1) hu
            refine this.mono ?_
            rintro e w' ⟨v, h1, h2, h3⟩
            refine ⟨v, h1, ?_, h3⟩
            rw [hls, ← Lib.extract_to_end]
            exact h2.keep (fun b hb => ⟨⟨hb.1, by have := hW.size; rcases hb.2 with q | q <;> omega⟩, rfl⟩)
          clear x0 x1 x2 g0 hout hls
          obtain ⟨T0, hT0⟩ : ∃ T0 : Array Value, T0 = #[(.agg #[.slice A0 x.entries.length c0, .slice A1 x.endings.length c1, .slice (some ⟨b2, off2, none⟩) x.clitics.length c2]), .slice Ab begun.length cb, .int .i64 first, .string t, .pointer (some ⟨w.heap.size, 0, none⟩), undef, undef, undef, .slice none 0 0, undef, undef, undef, .string t, .bool false, undef, undef, .int .i64 first, undef, undef, undef, undef, undef, undef, undef, undef, undef, undef, undef, undef, undef, undef, undef, undef, undef, undef, undef, undef, undef, undef, undef, undef, undef, undef, undef, undef, undef, undef, undef, undef, undef, undef, undef, undef, undef, undef] := ⟨_, rfl⟩
          have HT0 := Lib.hid hT0
          clear hT0
          refine wp_region_inv2 (RtI T0 wr (w.heap.size + 1) w.heap.size j begun t g.text (.agg #[.slice A0 x.entries.length c0, .slice A1 x.endings.length c1, .slice (some ⟨b2, off2, none⟩) x.clitics.length c2]) (.slice Ab begun.length cb) (.slice Av nv cv) ls out) (by kernel_rfl) (by kernel_rfl) ?h0 ?hstep ?hend
          case h0 =>
            have hno : ∀ j, ¬ dn (Array.replicate 17 false) j := by
              intro j; unfold dn; by_cases hj : j < 17 <;> simp [Array.getD, hj]
            exact ⟨_, rfl, { siz := rfl, kp := fun i hi => by (rw [HT0.out]; have hcs : i = 0 ∨ i = 1 ∨ i = 2 ∨ i = 3 ∨ i = 4 ∨ i = 5 ∨ i = 6 ∨ i = 7 ∨ i = 8 ∨ i = 12 ∨ i = 13 ∨ i = 14 ∨ i = 15 ∨ i = 16 ∨ i = 54 := (by omega); rcases hcs with rfl | rfl | rfl | rfl | rfl | rfl | rfl | rfl | rfl | rfl | rfl | rfl | rfl | rfl | rfl <;> rfl), bel := fun _ => (Below.refl _ _).drew, k1 := rfl, k3 := rfl, k4 := rfl, k9 := fun _ => rfl, k10 := rfl, k11 := rfl, p0 := fun hj => absurd hj (hno _), p1 := fun hj => absurd hj (hno _), p3 := fun hj => absurd hj (hno _), p5 := fun hj => absurd hj (hno _), p8 := fun hj => absurd hj (hno _), p9 := fun hj => absurd hj (hno _), p10 := fun hj => absurd hj (hno _), p11 := fun hj => absurd hj (hno _), p12 := fun hj => absurd hj (hno _), p13 := fun hj => absurd hj (hno _), p2 := fun hj => absurd hj (hno _), p4 := fun hj => absurd hj (hno _), p6 := fun hj => absurd hj (hno _), p7 := fun hj => absurd hj (hno _), p14 := fun hj => absurd hj (hno _), l15 := fun hj => absurd hj (hno _), l16 := fun hj => absurd hj (hno _), p15 := fun hj => absurd hj (hno _), l4 := fun hj => absurd hj (hno _), l6 := fun hj => absurd hj (hno _), l7 := fun hj => absurd hj (hno _), l9 := fun hj => absurd hj (hno _), l12 := fun hj => absurd hj (hno _), l13 := fun hj => absurd hj (hno _), l14 := fun hj => absurd hj (hno _) }⟩
          case hend =>
            intro d a wc hd hI hall
            obtain ⟨t', rfl, h⟩ := hI
            obtain ⟨A', n', c', -, hOG, hgr, h9⟩ := h.p15 (dn_all (n := 17) hd hall (by decide))
            have e9 := h9 (dn_all (n := 17) hd hall (by decide))
            have hsc := hgr.size
            have HOGC : Hid (OwnG KInts 27 wc (w.heap.size + 1) (.slice A' n' c') (Lx.tailsTo x (K + 1 - 1) begun t.data.toList first (j + 1))) := Lib.hid (by rw [HN.out]; exact hOG)
            have HBC : Hid (Below w.heap.size w wc) := Lib.hid (HBEL.out.grown hgr (by omega) (fun q hq => by have := (hvlt q hq).1; omega))
            have HXC := Lib.hid ((hgr.block w.heap.size (by omega) (fun q => by have := (hvlt _ q.symm).1; omega)).trans HX.out)
            have hl : t'.toList.length = 55 := h.siz
            obtain ⟨l⟩ := t'
            simp only [] at hl
            obtain ⟨z0, l, rfl⟩ := List.exists_cons_of_length_eq_add_one (n := 54) hl; replace hl : l.length = 54 := (by simpa using hl)
            obtain ⟨z1, l, rfl⟩ := List.exists_cons_of_length_eq_add_one (n := 53) hl; replace hl : l.length = 53 := (by simpa using hl)
            obtain ⟨z2, l, rfl⟩ := List.exists_cons_of_length_eq_add_one (n := 52) hl; replace hl : l.length = 52 := (by simpa using hl)
            obtain ⟨z3, l, rfl⟩ := List.exists_cons_of_length_eq_add_one (n := 51) hl; replace hl : l.length = 51 := (by simpa using hl)
            obtain ⟨z4, l, rfl⟩ := List.exists_cons_of_length_eq_add_one (n := 50) hl; replace hl : l.length = 50 := (by simpa using hl)
            obtain ⟨z5, l, rfl⟩ := List.exists_cons_of_length_eq_add_one (n := 49) hl; replace hl : l.length = 49 := (by simpa using hl)
            obtain ⟨z6, l, rfl⟩ := List.exists_cons_of_length_eq_add_one (n := 48) hl; replace hl : l.length = 48 := (by simpa using hl)
            obtain ⟨z7, l, rfl⟩ := List.exists_cons_of_length_eq_add_one (n := 47) hl; replace hl : l.length = 47 := (by simpa using hl)
            obtain ⟨z8, l, rfl⟩ := List.exists_cons_of_length_eq_add_one (n := 46) hl; replace hl : l.length = 46 := (by simpa using hl)
            obtain ⟨z9, l, rfl⟩ := List.exists_cons_of_length_eq_add_one (n := 45) hl; replace hl : l.length = 45 := (by simpa using hl)
            obtain ⟨z10, l, rfl⟩ := List.exists_cons_of_length_eq_add_one (n := 44) hl; replace hl : l.length = 44 := (by simpa using hl)
            obtain ⟨z11, l, rfl⟩ := List.exists_cons_of_length_eq_add_one (n := 43) hl; replace hl : l.length = 43 := (by simpa using hl)
            obtain ⟨z12, l, rfl⟩ := List.exists_cons_of_length_eq_add_one (n := 42) hl; replace hl : l.length = 42 := (by simpa using hl)
            obtain ⟨z13, l, rfl⟩ := List.exists_cons_of_length_eq_add_one (n := 41) hl; replace hl : l.length = 41 := (by simpa using hl)
            obtain ⟨z14, l, rfl⟩ := List.exists_cons_of_length_eq_add_one (n := 40) hl; replace hl : l.length = 40 := (by simpa using hl)
            obtain ⟨z15, l, rfl⟩ := List.exists_cons_of_length_eq_add_one (n := 39) hl; replace hl : l.length = 39 := (by simpa using hl)
            obtain ⟨z16, l, rfl⟩ := List.exists_cons_of_length_eq_add_one (n := 38) hl; replace hl : l.length = 38 := (by simpa using hl)
            obtain ⟨z17, l, rfl⟩ := List.exists_cons_of_length_eq_add_one (n := 37) hl; replace hl : l.length = 37 := (by simpa using hl)
            obtain ⟨z18, l, rfl⟩ := List.exists_cons_of_length_eq_add_one (n := 36) hl; replace hl : l.length = 36 := (by simpa using hl)
            obtain ⟨z19, l, rfl⟩ := List.exists_cons_of_length_eq_add_one (n := 35) hl; replace hl : l.length = 35 := (by simpa using hl)
            obtain ⟨z20, l, rfl⟩ := List.exists_cons_of_length_eq_add_one (n := 34) hl; replace hl : l.length = 34 := (by simpa using hl)
            obtain ⟨z21, l, rfl⟩ := List.exists_cons_of_length_eq_add_one (n := 33) hl; replace hl : l.length = 33 := (by simpa using hl)
            obtain ⟨z22, l, rfl⟩ := List.exists_cons_of_length_eq_add_one (n := 32) hl; replace hl : l.length = 32 := (by simpa using hl)
            obtain ⟨z23, l, rfl⟩ := List.exists_cons_of_length_eq_add_one (n := 31) hl; replace hl : l.length = 31 := (by simpa using hl)
            obtain ⟨z24, l, rfl⟩ := List.exists_cons_of_length_eq_add_one (n := 30) hl; replace hl : l.length = 30 := (by simpa using hl)
            obtain ⟨z25, l, rfl⟩ := List.exists_cons_of_length_eq_add_one (n := 29) hl; replace hl : l.length = 29 := (by simpa using hl)
            obtain ⟨z26, l, rfl⟩ := List.exists_cons_of_length_eq_add_one (n := 28) hl; replace hl : l.length = 28 := (by simpa using hl)
            obtain ⟨z27, l, rfl⟩ := List.exists_cons_of_length_eq_add_one (n := 27) hl; replace hl : l.length = 27 := (by simpa using hl)
            obtain ⟨z28, l, rfl⟩ := List.exists_cons_of_length_eq_add_one (n := 26) hl; replace hl : l.length = 26 := (by simpa using hl)
            obtain ⟨z29, l, rfl⟩ := List.exists_cons_of_length_eq_add_one (n := 25) hl; replace hl : l.length = 25 := (by simpa using hl)
            obtain ⟨z30, l, rfl⟩ := List.exists_cons_of_length_eq_add_one (n := 24) hl; replace hl : l.length = 24 := (by simpa using hl)
            obtain ⟨z31, l, rfl⟩ := List.exists_cons_of_length_eq_add_one (n := 23) hl; replace hl : l.length = 23 := (by simpa using hl)
            obtain ⟨z32, l, rfl⟩ := List.exists_cons_of_length_eq_add_one (n := 22) hl; replace hl : l.length = 22 := (by simpa using hl)
            obtain ⟨z33, l, rfl⟩ := List.exists_cons_of_length_eq_add_one (n := 21) hl; replace hl : l.length = 21 := (by simpa using hl)
            obtain ⟨z34, l, rfl⟩ := List.exists_cons_of_length_eq_add_one (n := 20) hl; replace hl : l.length = 20 := (by simpa using hl)
            obtain ⟨z35, l, rfl⟩ := List.exists_cons_of_length_eq_add_one (n := 19) hl; replace hl : l.length = 19 := (by simpa using hl)
            obtain ⟨z36, l, rfl⟩ := List.exists_cons_of_length_eq_add_one (n := 18) hl; replace hl : l.length = 18 := (by simpa using hl)
            obtain ⟨z37, l, rfl⟩ := List.exists_cons_of_length_eq_add_one (n := 17) hl; replace hl : l.length = 17 := (by simpa using hl)
            obtain ⟨z38, l, rfl⟩ := List.exists_cons_of_length_eq_add_one (n := 16) hl; replace hl : l.length = 16 := (by simpa using hl)
            obtain ⟨z39, l, rfl⟩ := List.exists_cons_of_length_eq_add_one (n := 15) hl; replace hl : l.length = 15 := (by simpa using hl)
            obtain ⟨z40, l, rfl⟩ := List.exists_cons_of_length_eq_add_one (n := 14) hl; replace hl : l.length = 14 := (by simpa using hl)
            obtain ⟨z41, l, rfl⟩ := List.exists_cons_of_length_eq_add_one (n := 13) hl; replace hl : l.length = 13 := (by simpa using hl)
            obtain ⟨z42, l, rfl⟩ := List.exists_cons_of_length_eq_add_one (n := 12) hl; replace hl : l.length = 12 := (by simpa using hl)
            obtain ⟨z43, l, rfl⟩ := List.exists_cons_of_length_eq_add_one (n := 11) hl; replace hl : l.length = 11 := (by simpa using hl)
            obtain ⟨z44, l, rfl⟩ := List.exists_cons_of_length_eq_add_one (n := 10) hl; replace hl : l.length = 10 := (by simpa using hl)
            obtain ⟨z45, l, rfl⟩ := List.exists_cons_of_length_eq_add_one (n := 9) hl; replace hl : l.length = 9 := (by simpa using hl)
            obtain ⟨z46, l, rfl⟩ := List.exists_cons_of_length_eq_add_one (n := 8) hl; replace hl : l.length = 8 := (by simpa using hl)
            obtain ⟨z47, l, rfl⟩ := List.exists_cons_of_length_eq_add_one (n := 7) hl; replace hl : l.length = 7 := (by simpa using hl)
            obtain ⟨z48, l, rfl⟩ := List.exists_cons_of_length_eq_add_one (n := 6) hl; replace hl : l.length = 6 := (by simpa using hl)
            obtain ⟨z49, l, rfl⟩ := List.exists_cons_of_length_eq_add_one (n := 5) hl; replace hl : l.length = 5 := (by simpa using hl)
            obtain ⟨z50, l, rfl⟩ := List.exists_cons_of_length_eq_add_one (n := 4) hl; replace hl : l.length = 4 := (by simpa using hl)
            obtain ⟨z51, l, rfl⟩ := List.exists_cons_of_length_eq_add_one (n := 3) hl; replace hl : l.length = 3 := (by simpa using hl)
            obtain ⟨z52, l, rfl⟩ := List.exists_cons_of_length_eq_add_one (n := 2) hl; replace hl : l.length = 2 := (by simpa using hl)
            obtain ⟨z53, l, rfl⟩ := List.exists_cons_of_length_eq_add_one (n := 1) hl; replace hl : l.length = 1 := (by simpa using hl)
            obtain ⟨z54, l, rfl⟩ := List.exists_cons_of_length_eq_add_one (n := 0) hl; replace hl : l.length = 0 := (by simpa using hl)
            obtain rfl := List.eq_nil_of_length_eq_zero hl
            clear hl
            obtain rfl : z0 = .agg #[.slice A0 x.entries.length c0, .slice A1 x.endings.length c1, .slice (some ⟨b2, off2, none⟩) x.clitics.length c2] := by have e := h.kp 0 (by omega); rw [HT0.out] at e; simpa using e
            obtain rfl : z1 = .slice Ab begun.length cb := by have e := h.kp 1 (by omega); rw [HT0.out] at e; simpa using e
            obtain rfl : z2 = .int .i64 first := by have e := h.kp 2 (by omega); rw [HT0.out] at e; simpa using e
            obtain rfl : z3 = .string t := by have e := h.kp 3 (by omega); rw [HT0.out] at e; simpa using e
            obtain rfl : z4 = .pointer (some ⟨w.heap.size, 0, none⟩) := by have e := h.kp 4 (by omega); rw [HT0.out] at e; simpa using e
            obtain rfl : z5 = undef := by have e := h.kp 5 (by omega); rw [HT0.out] at e; simpa using e
            obtain rfl : z6 = undef := by have e := h.kp 6 (by omega); rw [HT0.out] at e; simpa using e
            obtain rfl : z7 = undef := by have e := h.kp 7 (by omega); rw [HT0.out] at e; simpa using e
            obtain rfl : z8 = .slice none 0 0 := by have e := h.kp 8 (by omega); rw [HT0.out] at e; simpa using e
            obtain rfl : z12 = .string t := by have e := h.kp 12 (by omega); rw [HT0.out] at e; simpa using e
            obtain rfl : z13 = .bool false := by have e := h.kp 13 (by omega); rw [HT0.out] at e; simpa using e
            obtain rfl : z14 = undef := by have e := h.kp 14 (by omega); rw [HT0.out] at e; simpa using e
            obtain rfl : z15 = undef := by have e := h.kp 15 (by omega); rw [HT0.out] at e; simpa using e
            obtain rfl : z16 = .int .i64 first := by have e := h.kp 16 (by omega); rw [HT0.out] at e; simpa using e
            obtain rfl : z54 = undef := by have e := h.kp 54 (by omega); rw [HT0.out] at e; simpa using e
            obtain rfl : z9 = .slice A' n' c' := by simpa using e9
            obtain rfl : z10 = .int .i64 (j : Int) := by have e := h.k10; simpa using e
            clear h hall hOG hgr h9 e9
            go_wp2_with fail
            go_roundg (x.clitics.length - (j + 1))
            case measure => omega
            case rel => exact ⟨j + 1, by omega, by omega, (fun h => by omega), rfl, by go_num, ⟨_, _, _, rfl⟩, HOGC.out, HBC.out, by omega, HXC.out⟩
          case hstep =>
            intro d a0 wc i hd hI hi
            obtain ⟨hlt', hnd, hpre⟩ := mem_ready hi
            have hd' : d.size = 17 := hd
            have hin : i < 17 := hlt'
            clear hi hd hlt'
            obtain ⟨a, rfl, h⟩ := hI
            have hcs : i = 0 ∨ i = 1 ∨ i = 2 ∨ i = 3 ∨ i = 4 ∨ i = 5 ∨ i = 6 ∨ i = 7 ∨ i = 8 ∨ i = 9 ∨ i = 10 ∨ i = 11 ∨ i = 12 ∨ i = 13 ∨ i = 14 ∨ i = 15 ∨ i = 16 := by omega
            rcases hcs with rfl | rfl | rfl | rfl | rfl | rfl | rfl | rfl | rfl | rfl | rfl | rfl | rfl | rfl | rfl | rfl | rfl
            · have hi : 0 < d.size := by omega
              have hnd' := not_dn hi hnd
              refine wpOp_plain rfl rfl ?_
              have h15 : ¬ dn d 15 := fun q => hnd' (h.l15 q _ (by decide))
              have h16 : ¬ dn d 16 := fun q => h15 (h.l16 q)
              have q9 := h.k9 h16
              go_simp
              exact ⟨_, rfl, { siz := by simpa using h.siz, kp := fun i hi' => (set_other (by omega)).trans (h.kp i hi'), bel := fun _ => h.bel h15, k1 := (set_other (by decide)).trans h.k1, k3 := (set_other (by decide)).trans h.k3, k4 := (set_other (by decide)).trans h.k4, k9 := fun _ => (set_other (by decide)).trans (h.k9 h16), k10 := (set_other (by decide)).trans h.k10, k11 := (set_other (by decide)).trans h.k11, p0 := fun _ => set_same (by have := h.siz; omega), p1 := fun hj => (set_other (by decide)).trans (h.p1 (dn_of hi hj (by decide))), p3 := fun hj => (set_other (by decide)).trans (h.p3 (dn_of hi hj (by decide))), p5 := fun hj => (set_other (by decide)).trans (h.p5 (dn_of hi hj (by decide))), p8 := fun hj => (set_other (by decide)).trans (h.p8 (dn_of hi hj (by decide))), p9 := fun hj => (set_other (by decide)).trans (h.p9 (dn_of hi hj (by decide))), p10 := fun hj => (set_other (by decide)).trans (h.p10 (dn_of hi hj (by decide))), p11 := fun hj => (set_other (by decide)).trans (h.p11 (dn_of hi hj (by decide))), p12 := fun hj => (set_other (by decide)).trans (h.p12 (dn_of hi hj (by decide))), p13 := fun hj => (set_other (by decide)).trans (h.p13 (dn_of hi hj (by decide))), p2 := fun hj hk => by obtain ⟨ga, e1, e2, e3, e4⟩ := h.p2 (dn_of hi hj (by decide)) (fun q => hk (dn_up q)); exact ⟨ga, (set_other (by decide)).trans e1, e2, e3, fun gb hgb h6 => e4 gb (by rwa [set_other (by decide)] at hgb) (dn_of hi h6 (by decide))⟩, p4 := fun hj hk => by obtain ⟨u, e1, e2⟩ := h.p4 (dn_of hi hj (by decide)) (fun q => hk (dn_up q)); exact ⟨u, (set_other (by decide)).trans e1, e2⟩, p6 := fun hj hk => by obtain ⟨gb, e1, e2, e3⟩ := h.p6 (dn_of hi hj (by decide)) (fun q => hk (dn_up q)); exact ⟨gb, (set_other (by decide)).trans e1, e2, e3⟩, p7 := fun hj hk => by obtain ⟨u, e1, e2⟩ := h.p7 (dn_of hi hj (by decide)) (fun q => hk (dn_up q)); exact ⟨u, (set_other (by decide)).trans e1, e2⟩, p14 := fun hj hk => by obtain ⟨u, e1, e2⟩ := h.p14 (dn_of hi hj (by decide)) (fun q => hk (dn_up q)); exact ⟨u, (set_other (by decide)).trans e1, e2⟩, l15 := fun hj => absurd (dn_of hi hj (by decide)) h15, l16 := fun hj => absurd (dn_of hi hj (by decide)) h16, p15 := fun hj => absurd (dn_of hi hj (by decide)) h15, l4 := fun hj => (fun q => ⟨dn_up q.1, dn_up q.2⟩) (h.l4 (dn_of hi hj (by decide))), l6 := fun hj => dn_up (h.l6 (dn_of hi hj (by decide))), l7 := fun hj => (fun q => ⟨dn_up q.1, dn_up q.2⟩) (h.l7 (dn_of hi hj (by decide))), l9 := fun hj => dn_up (h.l9 (dn_of hi hj (by decide))), l12 := fun hj => dn_up (h.l12 (dn_of hi hj (by decide))), l13 := fun hj => (fun q => ⟨dn_up q.1, dn_up q.2⟩) (h.l13 (dn_of hi hj (by decide))), l14 := fun hj => (fun q => ⟨dn_up q.1, dn_up q.2.1, dn_up q.2.2.1, dn_up q.2.2.2⟩) (h.l14 (dn_of hi hj (by decide))) }⟩
            · have hi : 1 < d.size := by omega
              have hnd' := not_dn hi hnd
              refine wpOp_plain rfl rfl ?_
              have h15 : ¬ dn d 15 := fun q => hnd' (h.l15 q _ (by decide))
              have h16 : ¬ dn d 16 := fun q => h15 (h.l16 q)
              have h14 : ¬ dn d 14 := fun q => hnd' (h.l14 q).1
              have q4 := h.k4
              obtain ⟨m0, m1, m2⟩ := BX.out wc (h.bel h15)
              go_simp
              exact ⟨_, rfl, { siz := by simpa using h.siz, kp := fun i hi' => (set_other (by omega)).trans (h.kp i hi'), bel := fun _ => h.bel h15, k1 := (set_other (by decide)).trans h.k1, k3 := (set_other (by decide)).trans h.k3, k4 := (set_other (by decide)).trans h.k4, k9 := fun _ => (set_other (by decide)).trans (h.k9 h16), k10 := (set_other (by decide)).trans h.k10, k11 := (set_other (by decide)).trans h.k11, p0 := fun hj => (set_other (by decide)).trans (h.p0 (dn_of hi hj (by decide))), p1 := fun _ => set_same (by have := h.siz; omega), p3 := fun hj => (set_other (by decide)).trans (h.p3 (dn_of hi hj (by decide))), p5 := fun hj => (set_other (by decide)).trans (h.p5 (dn_of hi hj (by decide))), p8 := fun hj => (set_other (by decide)).trans (h.p8 (dn_of hi hj (by decide))), p9 := fun hj => (set_other (by decide)).trans (h.p9 (dn_of hi hj (by decide))), p10 := fun hj => (set_other (by decide)).trans (h.p10 (dn_of hi hj (by decide))), p11 := fun hj => (set_other (by decide)).trans (h.p11 (dn_of hi hj (by decide))), p12 := fun hj => (set_other (by decide)).trans (h.p12 (dn_of hi hj (by decide))), p13 := fun hj => (set_other (by decide)).trans (h.p13 (dn_of hi hj (by decide))), p2 := fun hj hk => by obtain ⟨ga, e1, e2, e3, e4⟩ := h.p2 (dn_of hi hj (by decide)) (fun q => hk (dn_up q)); exact ⟨ga, (set_other (by decide)).trans e1, e2, e3, fun gb hgb h6 => e4 gb (by rwa [set_other (by decide)] at hgb) (dn_of hi h6 (by decide))⟩, p4 := fun hj hk => by obtain ⟨u, e1, e2⟩ := h.p4 (dn_of hi hj (by decide)) (fun q => hk (dn_up q)); exact ⟨u, (set_other (by decide)).trans e1, e2⟩, p6 := fun hj hk => by obtain ⟨gb, e1, e2, e3⟩ := h.p6 (dn_of hi hj (by decide)) (fun q => hk (dn_up q)); exact ⟨gb, (set_other (by decide)).trans e1, e2, e3⟩, p7 := fun hj hk => by obtain ⟨u, e1, e2⟩ := h.p7 (dn_of hi hj (by decide)) (fun q => hk (dn_up q)); exact ⟨u, (set_other (by decide)).trans e1, e2⟩, p14 := fun hj hk => by obtain ⟨u, e1, e2⟩ := h.p14 (dn_of hi hj (by decide)) (fun q => hk (dn_up q)); exact ⟨u, (set_other (by decide)).trans e1, e2⟩, l15 := fun hj => absurd (dn_of hi hj (by decide)) h15, l16 := fun hj => absurd (dn_of hi hj (by decide)) h16, p15 := fun hj => absurd (dn_of hi hj (by decide)) h15, l4 := fun hj => (fun q => ⟨dn_up q.1, dn_up q.2⟩) (h.l4 (dn_of hi hj (by decide))), l6 := fun hj => dn_up (h.l6 (dn_of hi hj (by decide))), l7 := fun hj => (fun q => ⟨dn_up q.1, dn_up q.2⟩) (h.l7 (dn_of hi hj (by decide))), l9 := fun hj => dn_up (h.l9 (dn_of hi hj (by decide))), l12 := fun hj => dn_up (h.l12 (dn_of hi hj (by decide))), l13 := fun hj => (fun q => ⟨dn_up q.1, dn_up q.2⟩) (h.l13 (dn_of hi hj (by decide))), l14 := fun hj => absurd (h.l14 (dn_of hi hj (by decide))).1 hnd' }⟩
            · have hi : 2 < d.size := by omega
              have hnd' := not_dn hi hnd
              refine wpOp_plain rfl rfl ?_
              have h15 : ¬ dn d 15 := fun q => hnd' (h.l15 q _ (by decide))
              have h16 : ¬ dn d 16 := fun q => h15 (h.l16 q)
              have h4 : ¬ dn d 4 := fun q => hnd' (h.l4 q).1
              have h7 : ¬ dn d 7 := fun q => hnd' (h.l4 (h.l7 q).1).1
              have h14 : ¬ dn d 14 := fun q => hnd' (h.l4 (h.l7 (h.l14 q).2.1).1).1
              have hsz := (h.bel h15).size
              have hb : Below wc.heap.size wc (wc.alloc (.cells #[] 3)) := (Below.refl _ _).alloc (Nat.le_refl _) _
              go_simp
              exact ⟨_, rfl, { siz := by simpa using h.siz, kp := fun i hi' => (set_other (by omega)).trans (h.kp i hi'), bel := fun _ => (h.bel h15).trans (hb.mono (h.bel h15).size), k1 := (set_other (by decide)).trans h.k1, k3 := (set_other (by decide)).trans h.k3, k4 := (set_other (by decide)).trans h.k4, k9 := fun _ => (set_other (by decide)).trans (h.k9 h16), k10 := (set_other (by decide)).trans h.k10, k11 := (set_other (by decide)).trans h.k11, p0 := fun hj => (set_other (by decide)).trans (h.p0 (dn_of hi hj (by decide))), p1 := fun hj => (set_other (by decide)).trans (h.p1 (dn_of hi hj (by decide))), p3 := fun hj => (set_other (by decide)).trans (h.p3 (dn_of hi hj (by decide))), p5 := fun hj => (set_other (by decide)).trans (h.p5 (dn_of hi hj (by decide))), p8 := fun hj => (set_other (by decide)).trans (h.p8 (dn_of hi hj (by decide))), p9 := fun hj => (set_other (by decide)).trans (h.p9 (dn_of hi hj (by decide))), p10 := fun hj => (set_other (by decide)).trans (h.p10 (dn_of hi hj (by decide))), p11 := fun hj => (set_other (by decide)).trans (h.p11 (dn_of hi hj (by decide))), p12 := fun hj => (set_other (by decide)).trans (h.p12 (dn_of hi hj (by decide))), p13 := fun hj => (set_other (by decide)).trans (h.p13 (dn_of hi hj (by decide))), p2 := fun _ _ => ⟨wc.heap.size, set_same (by have := h.siz; omega), by simp, own_empty hsz, fun gb hgb h6 => by obtain ⟨gb', e1, e2, _⟩ := h.p6 (dn_of hi h6 (by decide)) h7; rw [set_other (by decide), e1] at hgb; cases hgb; omega⟩, p4 := fun hj hk => by obtain ⟨u, e1, e2⟩ := h.p4 (dn_of hi hj (by decide)) (fun q => hk (dn_up q)); exact ⟨u, (set_other (by decide)).trans e1, keep_own e2 hb⟩, p6 := fun hj hk => by obtain ⟨gb, e1, e2, e3⟩ := h.p6 (dn_of hi hj (by decide)) (fun q => hk (dn_up q)); exact ⟨gb, (set_other (by decide)).trans e1, Nat.lt_of_lt_of_le e2 hb.size, (hb.block _ e2).trans e3⟩, p7 := fun hj hk => by obtain ⟨u, e1, e2⟩ := h.p7 (dn_of hi hj (by decide)) (fun q => hk (dn_up q)); exact ⟨u, (set_other (by decide)).trans e1, e2.keep (fun b hk' => ⟨⟨Nat.lt_of_lt_of_le hk'.1 hb.size, hk'.2⟩, hb.block b hk'.1⟩)⟩, p14 := fun hj hk => by obtain ⟨u, e1, e2⟩ := h.p14 (dn_of hi hj (by decide)) (fun q => hk (dn_up q)); exact ⟨u, (set_other (by decide)).trans e1, e2.keep (fun b hk' => ⟨⟨Nat.lt_of_lt_of_le hk'.1 hb.size, hk'.2⟩, hb.block b hk'.1⟩)⟩, l15 := fun hj => absurd (dn_of hi hj (by decide)) h15, l16 := fun hj => absurd (dn_of hi hj (by decide)) h16, p15 := fun hj => absurd (dn_of hi hj (by decide)) h15, l4 := fun hj => absurd (h.l4 (dn_of hi hj (by decide))).1 hnd', l6 := fun hj => dn_up (h.l6 (dn_of hi hj (by decide))), l7 := fun hj => (fun q => ⟨dn_up q.1, dn_up q.2⟩) (h.l7 (dn_of hi hj (by decide))), l9 := fun hj => dn_up (h.l9 (dn_of hi hj (by decide))), l12 := fun hj => dn_up (h.l12 (dn_of hi hj (by decide))), l13 := fun hj => (fun q => ⟨dn_up q.1, dn_up q.2⟩) (h.l13 (dn_of hi hj (by decide))), l14 := fun hj => (fun q => ⟨dn_up q.1, dn_up q.2.1, dn_up q.2.2.1, dn_up q.2.2.2⟩) (h.l14 (dn_of hi hj (by decide))) }⟩
            · have hi : 3 < d.size := by omega
              have hnd' := not_dn hi hnd
              refine wpOp_plain rfl rfl ?_
              have h15 : ¬ dn d 15 := fun q => hnd' (h.l15 q _ (by decide))
              have h16 : ¬ dn d 16 := fun q => h15 (h.l16 q)
              have h4 : ¬ dn d 4 := fun q => hnd' (h.l4 q).2
              have h7 : ¬ dn d 7 := fun q => hnd' (h.l4 (h.l7 q).1).2
              have h14 : ¬ dn d 14 := fun q => hnd' (h.l4 (h.l7 (h.l14 q).2.1).1).2
              have q1 := h.k1
              go_simp
              exact ⟨_, rfl, { siz := by simpa using h.siz, kp := fun i hi' => (set_other (by omega)).trans (h.kp i hi'), bel := fun _ => h.bel h15, k1 := (set_other (by decide)).trans h.k1, k3 := (set_other (by decide)).trans h.k3, k4 := (set_other (by decide)).trans h.k4, k9 := fun _ => (set_other (by decide)).trans (h.k9 h16), k10 := (set_other (by decide)).trans h.k10, k11 := (set_other (by decide)).trans h.k11, p0 := fun hj => (set_other (by decide)).trans (h.p0 (dn_of hi hj (by decide))), p1 := fun hj => (set_other (by decide)).trans (h.p1 (dn_of hi hj (by decide))), p3 := fun _ => set_same (by have := h.siz; omega), p5 := fun hj => (set_other (by decide)).trans (h.p5 (dn_of hi hj (by decide))), p8 := fun hj => (set_other (by decide)).trans (h.p8 (dn_of hi hj (by decide))), p9 := fun hj => (set_other (by decide)).trans (h.p9 (dn_of hi hj (by decide))), p10 := fun hj => (set_other (by decide)).trans (h.p10 (dn_of hi hj (by decide))), p11 := fun hj => (set_other (by decide)).trans (h.p11 (dn_of hi hj (by decide))), p12 := fun hj => (set_other (by decide)).trans (h.p12 (dn_of hi hj (by decide))), p13 := fun hj => (set_other (by decide)).trans (h.p13 (dn_of hi hj (by decide))), p2 := fun hj hk => by obtain ⟨ga, e1, e2, e3, e4⟩ := h.p2 (dn_of hi hj (by decide)) (fun q => hk (dn_up q)); exact ⟨ga, (set_other (by decide)).trans e1, e2, e3, fun gb hgb h6 => e4 gb (by rwa [set_other (by decide)] at hgb) (dn_of hi h6 (by decide))⟩, p4 := fun hj hk => by obtain ⟨u, e1, e2⟩ := h.p4 (dn_of hi hj (by decide)) (fun q => hk (dn_up q)); exact ⟨u, (set_other (by decide)).trans e1, e2⟩, p6 := fun hj hk => by obtain ⟨gb, e1, e2, e3⟩ := h.p6 (dn_of hi hj (by decide)) (fun q => hk (dn_up q)); exact ⟨gb, (set_other (by decide)).trans e1, e2, e3⟩, p7 := fun hj hk => by obtain ⟨u, e1, e2⟩ := h.p7 (dn_of hi hj (by decide)) (fun q => hk (dn_up q)); exact ⟨u, (set_other (by decide)).trans e1, e2⟩, p14 := fun hj hk => by obtain ⟨u, e1, e2⟩ := h.p14 (dn_of hi hj (by decide)) (fun q => hk (dn_up q)); exact ⟨u, (set_other (by decide)).trans e1, e2⟩, l15 := fun hj => absurd (dn_of hi hj (by decide)) h15, l16 := fun hj => absurd (dn_of hi hj (by decide)) h16, p15 := fun hj => absurd (dn_of hi hj (by decide)) h15, l4 := fun hj => absurd (h.l4 (dn_of hi hj (by decide))).2 hnd', l6 := fun hj => dn_up (h.l6 (dn_of hi hj (by decide))), l7 := fun hj => (fun q => ⟨dn_up q.1, dn_up q.2⟩) (h.l7 (dn_of hi hj (by decide))), l9 := fun hj => dn_up (h.l9 (dn_of hi hj (by decide))), l12 := fun hj => dn_up (h.l12 (dn_of hi hj (by decide))), l13 := fun hj => (fun q => ⟨dn_up q.1, dn_up q.2⟩) (h.l13 (dn_of hi hj (by decide))), l14 := fun hj => (fun q => ⟨dn_up q.1, dn_up q.2.1, dn_up q.2.2.1, dn_up q.2.2.2⟩) (h.l14 (dn_of hi hj (by decide))) }⟩
            · have hi : 4 < d.size := by omega
              have hnd' := not_dn hi hnd
              refine wpOp_plain rfl rfl ?_
              have h15 : ¬ dn d 15 := fun q => hnd' (h.l15 q _ (by decide))
              have h16 : ¬ dn d 16 := fun q => h15 (h.l16 q)
              have h7 : ¬ dn d 7 := fun q => hnd' (h.l7 q).1
              have h14 : ¬ dn d 14 := fun q => hnd' (h.l7 (h.l14 q).2.1).1
              have h4 : ¬ dn d 4 := hnd'
              obtain ⟨ga, e2, hga, ho, hne⟩ := h.p2 (hpre _ rfl ⟨2, .data⟩ (by simp) rfl) h4
              have e3 := h.p3 (hpre _ rfl ⟨3, .data⟩ (by simp) rfl)
              have hvb : RdS wc wc.heap.size 1 encInt (.slice Ab begun.length cb) begun := (VB.out wc (h.bel h15))
              refine wp_append_rd (enc := encInt) (.tmp 40) (.tmp 41) _ rfl wr.heap.size 3 i1 _ 1 8 len_int one_int Tryd.underlying27 hi1 hz1 hs1 hb1 rfl (by decide) (.slice (some ⟨ga, 0, none⟩) 0 0) 0 [] (eval_tmp e2) ho wc.heap.size (.slice Ab begun.length cb) begun (eval_tmp e3) hvb (by simp only [maxLen]; omega) (by omega) (h.bel h15).size ?_
              intro v' w' hown' hg hat
              simp only [Nat.zero_add, List.nil_append] at hown'
              have hbw : Below wr.heap.size wr w' := below_own_grown (h.bel h15) hg ho (Nat.le_refl _) (h.bel h15).size
              exact ⟨_, rfl, { siz := by simpa using h.siz, kp := fun i hi' => (set_other (by omega)).trans (h.kp i hi'), bel := fun _ => hbw, k1 := (set_other (by decide)).trans h.k1, k3 := (set_other (by decide)).trans h.k3, k4 := (set_other (by decide)).trans h.k4, k9 := fun _ => (set_other (by decide)).trans (h.k9 h16), k10 := (set_other (by decide)).trans h.k10, k11 := (set_other (by decide)).trans h.k11, p0 := fun hj => (set_other (by decide)).trans (h.p0 (dn_of hi hj (by decide))), p1 := fun hj => (set_other (by decide)).trans (h.p1 (dn_of hi hj (by decide))), p3 := fun hj => (set_other (by decide)).trans (h.p3 (dn_of hi hj (by decide))), p5 := fun hj => (set_other (by decide)).trans (h.p5 (dn_of hi hj (by decide))), p8 := fun hj => (set_other (by decide)).trans (h.p8 (dn_of hi hj (by decide))), p9 := fun hj => (set_other (by decide)).trans (h.p9 (dn_of hi hj (by decide))), p10 := fun hj => (set_other (by decide)).trans (h.p10 (dn_of hi hj (by decide))), p11 := fun hj => (set_other (by decide)).trans (h.p11 (dn_of hi hj (by decide))), p12 := fun hj => (set_other (by decide)).trans (h.p12 (dn_of hi hj (by decide))), p13 := fun hj => (set_other (by decide)).trans (h.p13 (dn_of hi hj (by decide))), p2 := fun _ hk => absurd (dn_self hi) hk, p4 := fun _ _ => ⟨v', set_same (by have := h.siz; show 42 < a.size; omega), hown'⟩, p6 := fun hj hk => by obtain ⟨gb, e1, f2, f3⟩ := h.p6 (dn_of hi hj (by decide)) (fun q => hk (dn_up q)); exact ⟨gb, (set_other (by decide)).trans e1, Nat.lt_of_lt_of_le f2 hg.size, (hg.block _ f2 (fun q => by simp [Value.ownBlock] at q; exact hne gb e1 (dn_of hi hj (by decide)) q.symm)).trans f3⟩, p7 := fun hj => absurd (dn_of hi hj (by decide)) h7, p14 := fun hj => absurd (dn_of hi hj (by decide)) h14, l15 := fun hj => absurd (dn_of hi hj (by decide)) h15, l16 := fun hj => absurd (dn_of hi hj (by decide)) h16, p15 := fun hj => absurd (dn_of hi hj (by decide)) h15, l4 := fun _ => ⟨dn_up (hpre _ rfl ⟨2, .data⟩ (by simp) rfl), dn_up (hpre _ rfl ⟨3, .data⟩ (by simp) rfl)⟩, l6 := fun hj => dn_up (h.l6 (dn_of hi hj (by decide))), l7 := fun hj => absurd (h.l7 (dn_of hi hj (by decide))).1 hnd', l9 := fun hj => dn_up (h.l9 (dn_of hi hj (by decide))), l12 := fun hj => dn_up (h.l12 (dn_of hi hj (by decide))), l13 := fun hj => (fun q => ⟨dn_up q.1, dn_up q.2⟩) (h.l13 (dn_of hi hj (by decide))), l14 := fun hj => (fun q => ⟨dn_up q.1, dn_up q.2.1, dn_up q.2.2.1, dn_up q.2.2.2⟩) (h.l14 (dn_of hi hj (by decide))) }⟩
            · have hi : 5 < d.size := by omega
              have hnd' := not_dn hi hnd
              refine wpOp_plain rfl rfl ?_
              have h15 : ¬ dn d 15 := fun q => hnd' (h.l15 q _ (by decide))
              have h16 : ¬ dn d 16 := fun q => h15 (h.l16 q)
              have h7 : ¬ dn d 7 := fun q => hnd' (h.l6 (h.l7 q).2)
              have h14 : ¬ dn d 14 := fun q => hnd' (h.l6 (h.l7 (h.l14 q).2.1).2)
              have q10 := h.k10
              go_simp
              exact ⟨_, rfl, { siz := by simpa using h.siz, kp := fun i hi' => (set_other (by omega)).trans (h.kp i hi'), bel := fun _ => h.bel h15, k1 := (set_other (by decide)).trans h.k1, k3 := (set_other (by decide)).trans h.k3, k4 := (set_other (by decide)).trans h.k4, k9 := fun _ => (set_other (by decide)).trans (h.k9 h16), k10 := (set_other (by decide)).trans h.k10, k11 := (set_other (by decide)).trans h.k11, p0 := fun hj => (set_other (by decide)).trans (h.p0 (dn_of hi hj (by decide))), p1 := fun hj => (set_other (by decide)).trans (h.p1 (dn_of hi hj (by decide))), p3 := fun hj => (set_other (by decide)).trans (h.p3 (dn_of hi hj (by decide))), p5 := fun _ => set_same (by have := h.siz; omega), p8 := fun hj => (set_other (by decide)).trans (h.p8 (dn_of hi hj (by decide))), p9 := fun hj => (set_other (by decide)).trans (h.p9 (dn_of hi hj (by decide))), p10 := fun hj => (set_other (by decide)).trans (h.p10 (dn_of hi hj (by decide))), p11 := fun hj => (set_other (by decide)).trans (h.p11 (dn_of hi hj (by decide))), p12 := fun hj => (set_other (by decide)).trans (h.p12 (dn_of hi hj (by decide))), p13 := fun hj => (set_other (by decide)).trans (h.p13 (dn_of hi hj (by decide))), p2 := fun hj hk => by obtain ⟨ga, e1, e2, e3, e4⟩ := h.p2 (dn_of hi hj (by decide)) (fun q => hk (dn_up q)); exact ⟨ga, (set_other (by decide)).trans e1, e2, e3, fun gb hgb h6 => e4 gb (by rwa [set_other (by decide)] at hgb) (dn_of hi h6 (by decide))⟩, p4 := fun hj hk => by obtain ⟨u, e1, e2⟩ := h.p4 (dn_of hi hj (by decide)) (fun q => hk (dn_up q)); exact ⟨u, (set_other (by decide)).trans e1, e2⟩, p6 := fun hj hk => by obtain ⟨gb, e1, e2, e3⟩ := h.p6 (dn_of hi hj (by decide)) (fun q => hk (dn_up q)); exact ⟨gb, (set_other (by decide)).trans e1, e2, e3⟩, p7 := fun hj hk => by obtain ⟨u, e1, e2⟩ := h.p7 (dn_of hi hj (by decide)) (fun q => hk (dn_up q)); exact ⟨u, (set_other (by decide)).trans e1, e2⟩, p14 := fun hj hk => by obtain ⟨u, e1, e2⟩ := h.p14 (dn_of hi hj (by decide)) (fun q => hk (dn_up q)); exact ⟨u, (set_other (by decide)).trans e1, e2⟩, l15 := fun hj => absurd (dn_of hi hj (by decide)) h15, l16 := fun hj => absurd (dn_of hi hj (by decide)) h16, p15 := fun hj => absurd (dn_of hi hj (by decide)) h15, l4 := fun hj => (fun q => ⟨dn_up q.1, dn_up q.2⟩) (h.l4 (dn_of hi hj (by decide))), l6 := fun hj => absurd (h.l6 (dn_of hi hj (by decide))) hnd', l7 := fun hj => (fun q => ⟨dn_up q.1, dn_up q.2⟩) (h.l7 (dn_of hi hj (by decide))), l9 := fun hj => dn_up (h.l9 (dn_of hi hj (by decide))), l12 := fun hj => dn_up (h.l12 (dn_of hi hj (by decide))), l13 := fun hj => (fun q => ⟨dn_up q.1, dn_up q.2⟩) (h.l13 (dn_of hi hj (by decide))), l14 := fun hj => (fun q => ⟨dn_up q.1, dn_up q.2.1, dn_up q.2.2.1, dn_up q.2.2.2⟩) (h.l14 (dn_of hi hj (by decide))) }⟩
            · have hi : 6 < d.size := by omega
              have hnd' := not_dn hi hnd
              refine wpOp_plain rfl rfl ?_
              have h15 : ¬ dn d 15 := fun q => hnd' (h.l15 q _ (by decide))
              have h16 : ¬ dn d 16 := fun q => h15 (h.l16 q)
              have h7 : ¬ dn d 7 := fun q => hnd' (h.l7 q).2
              have h14 : ¬ dn d 14 := fun q => hnd' (h.l7 (h.l14 q).2.1).2
              have e5 := h.p5 (hpre _ rfl ⟨5, .data⟩ (by simp) rfl)
              have hb : Below wc.heap.size wc (wc.alloc (.cells #[.int .i64 (j : Int)] 3)) := (Below.refl _ _).alloc (Nat.le_refl _) _
              go_simp
              exact ⟨_, rfl, { siz := by simpa using h.siz, kp := fun i hi' => (set_other (by omega)).trans (h.kp i hi'), bel := fun _ => (h.bel h15).trans (hb.mono (h.bel h15).size), k1 := (set_other (by decide)).trans h.k1, k3 := (set_other (by decide)).trans h.k3, k4 := (set_other (by decide)).trans h.k4, k9 := fun _ => (set_other (by decide)).trans (h.k9 h16), k10 := (set_other (by decide)).trans h.k10, k11 := (set_other (by decide)).trans h.k11, p0 := fun hj => (set_other (by decide)).trans (h.p0 (dn_of hi hj (by decide))), p1 := fun hj => (set_other (by decide)).trans (h.p1 (dn_of hi hj (by decide))), p3 := fun hj => (set_other (by decide)).trans (h.p3 (dn_of hi hj (by decide))), p5 := fun hj => (set_other (by decide)).trans (h.p5 (dn_of hi hj (by decide))), p8 := fun hj => (set_other (by decide)).trans (h.p8 (dn_of hi hj (by decide))), p9 := fun hj => (set_other (by decide)).trans (h.p9 (dn_of hi hj (by decide))), p10 := fun hj => (set_other (by decide)).trans (h.p10 (dn_of hi hj (by decide))), p11 := fun hj => (set_other (by decide)).trans (h.p11 (dn_of hi hj (by decide))), p12 := fun hj => (set_other (by decide)).trans (h.p12 (dn_of hi hj (by decide))), p13 := fun hj => (set_other (by decide)).trans (h.p13 (dn_of hi hj (by decide))), p2 := fun hj hk => by obtain ⟨ga, e1, e2, e3, _⟩ := h.p2 (dn_of hi hj (by decide)) (fun q => hk (dn_up q)); exact ⟨ga, (set_other (by decide)).trans e1, Nat.lt_of_lt_of_le e2 hb.size, keep_own e3 hb, fun gb hgb _ => by (rw [set_same (by have := h.siz; omega)] at hgb; cases hgb; omega)⟩, p4 := fun hj hk => by obtain ⟨u, e1, e2⟩ := h.p4 (dn_of hi hj (by decide)) (fun q => hk (dn_up q)); exact ⟨u, (set_other (by decide)).trans e1, keep_own e2 hb⟩, p6 := fun _ _ => ⟨wc.heap.size, set_same (by have := h.siz; omega), by simp, heap_alloc_new _ _⟩, p7 := fun hj hk => by obtain ⟨u, e1, e2⟩ := h.p7 (dn_of hi hj (by decide)) (fun q => hk (dn_up q)); exact ⟨u, (set_other (by decide)).trans e1, e2.keep (fun b hk' => ⟨⟨Nat.lt_of_lt_of_le hk'.1 hb.size, hk'.2⟩, hb.block b hk'.1⟩)⟩, p14 := fun hj hk => by obtain ⟨u, e1, e2⟩ := h.p14 (dn_of hi hj (by decide)) (fun q => hk (dn_up q)); exact ⟨u, (set_other (by decide)).trans e1, e2.keep (fun b hk' => ⟨⟨Nat.lt_of_lt_of_le hk'.1 hb.size, hk'.2⟩, hb.block b hk'.1⟩)⟩, l15 := fun hj => absurd (dn_of hi hj (by decide)) h15, l16 := fun hj => absurd (dn_of hi hj (by decide)) h16, p15 := fun hj => absurd (dn_of hi hj (by decide)) h15, l4 := fun hj => (fun q => ⟨dn_up q.1, dn_up q.2⟩) (h.l4 (dn_of hi hj (by decide))), l6 := fun _ => dn_up (hpre _ rfl ⟨5, .data⟩ (by simp) rfl), l7 := fun hj => absurd (h.l7 (dn_of hi hj (by decide))).2 hnd', l9 := fun hj => dn_up (h.l9 (dn_of hi hj (by decide))), l12 := fun hj => dn_up (h.l12 (dn_of hi hj (by decide))), l13 := fun hj => (fun q => ⟨dn_up q.1, dn_up q.2⟩) (h.l13 (dn_of hi hj (by decide))), l14 := fun hj => (fun q => ⟨dn_up q.1, dn_up q.2.1, dn_up q.2.2.1, dn_up q.2.2.2⟩) (h.l14 (dn_of hi hj (by decide))) }⟩
            · have hi : 7 < d.size := by omega
              have hnd' := not_dn hi hnd
              refine wpOp_plain rfl rfl ?_
              have h15 : ¬ dn d 15 := fun q => hnd' (h.l15 q _ (by decide))
              have h16 : ¬ dn d 16 := fun q => h15 (h.l16 q)
              have h14 : ¬ dn d 14 := fun q => hnd' (h.l14 q).2.1
              have h7 : ¬ dn d 7 := hnd'
              have d4 : dn d 4 := hpre _ rfl ⟨4, .data⟩ (by simp) rfl
              obtain ⟨u4, e4, ho⟩ := h.p4 d4 h7
              obtain ⟨gb, e6, hgb, hs6⟩ := h.p6 (hpre _ rfl ⟨6, .data⟩ (by simp) rfl) h7
              refine wp_append_rd (enc := encInt) (.tmp 42) (.tmp 44) _ rfl wr.heap.size 3 i1 _ 1 8 len_int one_int Tryd.underlying27 hi1 hz1 hs1 hb1 rfl (by decide) u4 begun.length (begun.flatMap encInt) (eval_tmp e4) ho wc.heap.size (.slice (some ⟨gb, 0, none⟩) 1 1) [(j : Int)] (eval_tmp e6) (rds_block (xs := [(j : Int)]) len_int hs6 rfl hgb (Nat.le_refl 1) (by decide)) (by simp only [maxLen]; show begun.length + 1 ≤ _; omega) (by show (begun.length + 1) * 8 ≤ _; omega) (h.bel h15).size ?_
              intro v' w' hown' hg hat
              have hown2 : w'.ownsRow wr.heap.size 3 1 v' (begun ++ [(j : Int)]).length ((begun ++ [(j : Int)]).flatMap encInt) := by rw [List.length_append, List.flatMap_append]; exact hown'
              have hbw : Below wr.heap.size wr w' := below_own_grown (h.bel h15) hg ho (Nat.le_refl _) (h.bel h15).size
              exact ⟨_, rfl, { siz := by simpa using h.siz, kp := fun i hi' => (set_other (by omega)).trans (h.kp i hi'), bel := fun _ => hbw, k1 := (set_other (by decide)).trans h.k1, k3 := (set_other (by decide)).trans h.k3, k4 := (set_other (by decide)).trans h.k4, k9 := fun _ => (set_other (by decide)).trans (h.k9 h16), k10 := (set_other (by decide)).trans h.k10, k11 := (set_other (by decide)).trans h.k11, p0 := fun hj => (set_other (by decide)).trans (h.p0 (dn_of hi hj (by decide))), p1 := fun hj => (set_other (by decide)).trans (h.p1 (dn_of hi hj (by decide))), p3 := fun hj => (set_other (by decide)).trans (h.p3 (dn_of hi hj (by decide))), p5 := fun hj => (set_other (by decide)).trans (h.p5 (dn_of hi hj (by decide))), p8 := fun hj => (set_other (by decide)).trans (h.p8 (dn_of hi hj (by decide))), p9 := fun hj => (set_other (by decide)).trans (h.p9 (dn_of hi hj (by decide))), p10 := fun hj => (set_other (by decide)).trans (h.p10 (dn_of hi hj (by decide))), p11 := fun hj => (set_other (by decide)).trans (h.p11 (dn_of hi hj (by decide))), p12 := fun hj => (set_other (by decide)).trans (h.p12 (dn_of hi hj (by decide))), p13 := fun hj => (set_other (by decide)).trans (h.p13 (dn_of hi hj (by decide))), p2 := fun _ hk => absurd (dn_up d4) hk, p4 := fun _ hk => absurd (dn_self hi) hk, p6 := fun _ hk => absurd (dn_self hi) hk, p7 := fun _ _ => ⟨v', set_same (by have := h.siz; show 45 < a.size; omega), (rdx_of_own len_int hown2).keep (fun b hb => ⟨⟨hb.2, hb.1⟩, rfl⟩)⟩, p14 := fun hj => absurd (dn_of hi hj (by decide)) h14, l15 := fun hj => absurd (dn_of hi hj (by decide)) h15, l16 := fun hj => absurd (dn_of hi hj (by decide)) h16, p15 := fun hj => absurd (dn_of hi hj (by decide)) h15, l4 := fun hj => (fun q => ⟨dn_up q.1, dn_up q.2⟩) (h.l4 (dn_of hi hj (by decide))), l6 := fun hj => dn_up (h.l6 (dn_of hi hj (by decide))), l7 := fun _ => ⟨dn_up (hpre _ rfl ⟨4, .data⟩ (by simp) rfl), dn_up (hpre _ rfl ⟨6, .data⟩ (by simp) rfl)⟩, l9 := fun hj => dn_up (h.l9 (dn_of hi hj (by decide))), l12 := fun hj => dn_up (h.l12 (dn_of hi hj (by decide))), l13 := fun hj => (fun q => ⟨dn_up q.1, dn_up q.2⟩) (h.l13 (dn_of hi hj (by decide))), l14 := fun hj => absurd (h.l14 (dn_of hi hj (by decide))).2.1 hnd' }⟩
            · have hi : 8 < d.size := by omega
              have hnd' := not_dn hi hnd
              refine wpOp_plain rfl rfl ?_
              have h15 : ¬ dn d 15 := fun q => hnd' (h.l15 q _ (by decide))
              have h16 : ¬ dn d 16 := fun q => h15 (h.l16 q)
              have h14 : ¬ dn d 14 := fun q => hnd' (h.l9 (h.l14 q).2.2.1)
              have q10 := h.k10
              go_simp
              exact ⟨_, rfl, { siz := by simpa using h.siz, kp := fun i hi' => (set_other (by omega)).trans (h.kp i hi'), bel := fun _ => h.bel h15, k1 := (set_other (by decide)).trans h.k1, k3 := (set_other (by decide)).trans h.k3, k4 := (set_other (by decide)).trans h.k4, k9 := fun _ => (set_other (by decide)).trans (h.k9 h16), k10 := (set_other (by decide)).trans h.k10, k11 := (set_other (by decide)).trans h.k11, p0 := fun hj => (set_other (by decide)).trans (h.p0 (dn_of hi hj (by decide))), p1 := fun hj => (set_other (by decide)).trans (h.p1 (dn_of hi hj (by decide))), p3 := fun hj => (set_other (by decide)).trans (h.p3 (dn_of hi hj (by decide))), p5 := fun hj => (set_other (by decide)).trans (h.p5 (dn_of hi hj (by decide))), p8 := fun _ => set_same (by have := h.siz; omega), p9 := fun hj => (set_other (by decide)).trans (h.p9 (dn_of hi hj (by decide))), p10 := fun hj => (set_other (by decide)).trans (h.p10 (dn_of hi hj (by decide))), p11 := fun hj => (set_other (by decide)).trans (h.p11 (dn_of hi hj (by decide))), p12 := fun hj => (set_other (by decide)).trans (h.p12 (dn_of hi hj (by decide))), p13 := fun hj => (set_other (by decide)).trans (h.p13 (dn_of hi hj (by decide))), p2 := fun hj hk => by obtain ⟨ga, e1, e2, e3, e4⟩ := h.p2 (dn_of hi hj (by decide)) (fun q => hk (dn_up q)); exact ⟨ga, (set_other (by decide)).trans e1, e2, e3, fun gb hgb h6 => e4 gb (by rwa [set_other (by decide)] at hgb) (dn_of hi h6 (by decide))⟩, p4 := fun hj hk => by obtain ⟨u, e1, e2⟩ := h.p4 (dn_of hi hj (by decide)) (fun q => hk (dn_up q)); exact ⟨u, (set_other (by decide)).trans e1, e2⟩, p6 := fun hj hk => by obtain ⟨gb, e1, e2, e3⟩ := h.p6 (dn_of hi hj (by decide)) (fun q => hk (dn_up q)); exact ⟨gb, (set_other (by decide)).trans e1, e2, e3⟩, p7 := fun hj hk => by obtain ⟨u, e1, e2⟩ := h.p7 (dn_of hi hj (by decide)) (fun q => hk (dn_up q)); exact ⟨u, (set_other (by decide)).trans e1, e2⟩, p14 := fun hj hk => by obtain ⟨u, e1, e2⟩ := h.p14 (dn_of hi hj (by decide)) (fun q => hk (dn_up q)); exact ⟨u, (set_other (by decide)).trans e1, e2⟩, l15 := fun hj => absurd (dn_of hi hj (by decide)) h15, l16 := fun hj => absurd (dn_of hi hj (by decide)) h16, p15 := fun hj => absurd (dn_of hi hj (by decide)) h15, l4 := fun hj => (fun q => ⟨dn_up q.1, dn_up q.2⟩) (h.l4 (dn_of hi hj (by decide))), l6 := fun hj => dn_up (h.l6 (dn_of hi hj (by decide))), l7 := fun hj => (fun q => ⟨dn_up q.1, dn_up q.2⟩) (h.l7 (dn_of hi hj (by decide))), l9 := fun hj => absurd (h.l9 (dn_of hi hj (by decide))) hnd', l12 := fun hj => dn_up (h.l12 (dn_of hi hj (by decide))), l13 := fun hj => (fun q => ⟨dn_up q.1, dn_up q.2⟩) (h.l13 (dn_of hi hj (by decide))), l14 := fun hj => (fun q => ⟨dn_up q.1, dn_up q.2.1, dn_up q.2.2.1, dn_up q.2.2.2⟩) (h.l14 (dn_of hi hj (by decide))) }⟩
            · have hi : 9 < d.size := by omega
              have hnd' := not_dn hi hnd
              refine wpOp_plain rfl rfl ?_
              have h15 : ¬ dn d 15 := fun q => hnd' (h.l15 q _ (by decide))
              have h16 : ¬ dn d 16 := fun q => h15 (h.l16 q)
              have h14 : ¬ dn d 14 := fun q => hnd' (h.l14 q).2.2.1
              have e8 := h.p8 (hpre _ rfl ⟨8, .data⟩ (by simp) rfl)
              go_simp
              simp (disch := omega) only [IntWalk.i64_in]
              exact ⟨_, rfl, { siz := by simpa using h.siz, kp := fun i hi' => (set_other (by omega)).trans (h.kp i hi'), bel := fun _ => h.bel h15, k1 := (set_other (by decide)).trans h.k1, k3 := (set_other (by decide)).trans h.k3, k4 := (set_other (by decide)).trans h.k4, k9 := fun _ => (set_other (by decide)).trans (h.k9 h16), k10 := (set_other (by decide)).trans h.k10, k11 := (set_other (by decide)).trans h.k11, p0 := fun hj => (set_other (by decide)).trans (h.p0 (dn_of hi hj (by decide))), p1 := fun hj => (set_other (by decide)).trans (h.p1 (dn_of hi hj (by decide))), p3 := fun hj => (set_other (by decide)).trans (h.p3 (dn_of hi hj (by decide))), p5 := fun hj => (set_other (by decide)).trans (h.p5 (dn_of hi hj (by decide))), p8 := fun hj => (set_other (by decide)).trans (h.p8 (dn_of hi hj (by decide))), p9 := fun _ => set_same (by have := h.siz; omega), p10 := fun hj => (set_other (by decide)).trans (h.p10 (dn_of hi hj (by decide))), p11 := fun hj => (set_other (by decide)).trans (h.p11 (dn_of hi hj (by decide))), p12 := fun hj => (set_other (by decide)).trans (h.p12 (dn_of hi hj (by decide))), p13 := fun hj => (set_other (by decide)).trans (h.p13 (dn_of hi hj (by decide))), p2 := fun hj hk => by obtain ⟨ga, e1, e2, e3, e4⟩ := h.p2 (dn_of hi hj (by decide)) (fun q => hk (dn_up q)); exact ⟨ga, (set_other (by decide)).trans e1, e2, e3, fun gb hgb h6 => e4 gb (by rwa [set_other (by decide)] at hgb) (dn_of hi h6 (by decide))⟩, p4 := fun hj hk => by obtain ⟨u, e1, e2⟩ := h.p4 (dn_of hi hj (by decide)) (fun q => hk (dn_up q)); exact ⟨u, (set_other (by decide)).trans e1, e2⟩, p6 := fun hj hk => by obtain ⟨gb, e1, e2, e3⟩ := h.p6 (dn_of hi hj (by decide)) (fun q => hk (dn_up q)); exact ⟨gb, (set_other (by decide)).trans e1, e2, e3⟩, p7 := fun hj hk => by obtain ⟨u, e1, e2⟩ := h.p7 (dn_of hi hj (by decide)) (fun q => hk (dn_up q)); exact ⟨u, (set_other (by decide)).trans e1, e2⟩, p14 := fun hj hk => by obtain ⟨u, e1, e2⟩ := h.p14 (dn_of hi hj (by decide)) (fun q => hk (dn_up q)); exact ⟨u, (set_other (by decide)).trans e1, e2⟩, l15 := fun hj => absurd (dn_of hi hj (by decide)) h15, l16 := fun hj => absurd (dn_of hi hj (by decide)) h16, p15 := fun hj => absurd (dn_of hi hj (by decide)) h15, l4 := fun hj => (fun q => ⟨dn_up q.1, dn_up q.2⟩) (h.l4 (dn_of hi hj (by decide))), l6 := fun hj => dn_up (h.l6 (dn_of hi hj (by decide))), l7 := fun hj => (fun q => ⟨dn_up q.1, dn_up q.2⟩) (h.l7 (dn_of hi hj (by decide))), l9 := fun _ => dn_up (hpre _ rfl ⟨8, .data⟩ (by simp) rfl), l12 := fun hj => dn_up (h.l12 (dn_of hi hj (by decide))), l13 := fun hj => (fun q => ⟨dn_up q.1, dn_up q.2⟩) (h.l13 (dn_of hi hj (by decide))), l14 := fun hj => absurd (h.l14 (dn_of hi hj (by decide))).2.2.1 hnd' }⟩
            · have hi : 10 < d.size := by omega
              have hnd' := not_dn hi hnd
              refine wpOp_plain rfl rfl ?_
              have h15 : ¬ dn d 15 := fun q => hnd' (h.l15 q _ (by decide))
              have h16 : ¬ dn d 16 := fun q => h15 (h.l16 q)
              have h14 : ¬ dn d 14 := fun q => hnd' (h.l13 (h.l14 q).2.2.2).1
              have q3 := h.k3
              go_simp
              exact ⟨_, rfl, { siz := by simpa using h.siz, kp := fun i hi' => (set_other (by omega)).trans (h.kp i hi'), bel := fun _ => h.bel h15, k1 := (set_other (by decide)).trans h.k1, k3 := (set_other (by decide)).trans h.k3, k4 := (set_other (by decide)).trans h.k4, k9 := fun _ => (set_other (by decide)).trans (h.k9 h16), k10 := (set_other (by decide)).trans h.k10, k11 := (set_other (by decide)).trans h.k11, p0 := fun hj => (set_other (by decide)).trans (h.p0 (dn_of hi hj (by decide))), p1 := fun hj => (set_other (by decide)).trans (h.p1 (dn_of hi hj (by decide))), p3 := fun hj => (set_other (by decide)).trans (h.p3 (dn_of hi hj (by decide))), p5 := fun hj => (set_other (by decide)).trans (h.p5 (dn_of hi hj (by decide))), p8 := fun hj => (set_other (by decide)).trans (h.p8 (dn_of hi hj (by decide))), p9 := fun hj => (set_other (by decide)).trans (h.p9 (dn_of hi hj (by decide))), p10 := fun _ => set_same (by have := h.siz; omega), p11 := fun hj => (set_other (by decide)).trans (h.p11 (dn_of hi hj (by decide))), p12 := fun hj => (set_other (by decide)).trans (h.p12 (dn_of hi hj (by decide))), p13 := fun hj => (set_other (by decide)).trans (h.p13 (dn_of hi hj (by decide))), p2 := fun hj hk => by obtain ⟨ga, e1, e2, e3, e4⟩ := h.p2 (dn_of hi hj (by decide)) (fun q => hk (dn_up q)); exact ⟨ga, (set_other (by decide)).trans e1, e2, e3, fun gb hgb h6 => e4 gb (by rwa [set_other (by decide)] at hgb) (dn_of hi h6 (by decide))⟩, p4 := fun hj hk => by obtain ⟨u, e1, e2⟩ := h.p4 (dn_of hi hj (by decide)) (fun q => hk (dn_up q)); exact ⟨u, (set_other (by decide)).trans e1, e2⟩, p6 := fun hj hk => by obtain ⟨gb, e1, e2, e3⟩ := h.p6 (dn_of hi hj (by decide)) (fun q => hk (dn_up q)); exact ⟨gb, (set_other (by decide)).trans e1, e2, e3⟩, p7 := fun hj hk => by obtain ⟨u, e1, e2⟩ := h.p7 (dn_of hi hj (by decide)) (fun q => hk (dn_up q)); exact ⟨u, (set_other (by decide)).trans e1, e2⟩, p14 := fun hj hk => by obtain ⟨u, e1, e2⟩ := h.p14 (dn_of hi hj (by decide)) (fun q => hk (dn_up q)); exact ⟨u, (set_other (by decide)).trans e1, e2⟩, l15 := fun hj => absurd (dn_of hi hj (by decide)) h15, l16 := fun hj => absurd (dn_of hi hj (by decide)) h16, p15 := fun hj => absurd (dn_of hi hj (by decide)) h15, l4 := fun hj => (fun q => ⟨dn_up q.1, dn_up q.2⟩) (h.l4 (dn_of hi hj (by decide))), l6 := fun hj => dn_up (h.l6 (dn_of hi hj (by decide))), l7 := fun hj => (fun q => ⟨dn_up q.1, dn_up q.2⟩) (h.l7 (dn_of hi hj (by decide))), l9 := fun hj => dn_up (h.l9 (dn_of hi hj (by decide))), l12 := fun hj => dn_up (h.l12 (dn_of hi hj (by decide))), l13 := fun hj => absurd (h.l13 (dn_of hi hj (by decide))).1 hnd', l14 := fun hj => (fun q => ⟨dn_up q.1, dn_up q.2.1, dn_up q.2.2.1, dn_up q.2.2.2⟩) (h.l14 (dn_of hi hj (by decide))) }⟩
            · have hi : 11 < d.size := by omega
              have hnd' := not_dn hi hnd
              refine wpOp_plain rfl rfl ?_
              have h15 : ¬ dn d 15 := fun q => hnd' (h.l15 q _ (by decide))
              have h16 : ¬ dn d 16 := fun q => h15 (h.l16 q)
              have h14 : ¬ dn d 14 := fun q => hnd' (h.l12 (h.l13 (h.l14 q).2.2.2).2)
              have q11 := h.k11
              go_simp
              exact ⟨_, rfl, { siz := by simpa using h.siz, kp := fun i hi' => (set_other (by omega)).trans (h.kp i hi'), bel := fun _ => h.bel h15, k1 := (set_other (by decide)).trans h.k1, k3 := (set_other (by decide)).trans h.k3, k4 := (set_other (by decide)).trans h.k4, k9 := fun _ => (set_other (by decide)).trans (h.k9 h16), k10 := (set_other (by decide)).trans h.k10, k11 := (set_other (by decide)).trans h.k11, p0 := fun hj => (set_other (by decide)).trans (h.p0 (dn_of hi hj (by decide))), p1 := fun hj => (set_other (by decide)).trans (h.p1 (dn_of hi hj (by decide))), p3 := fun hj => (set_other (by decide)).trans (h.p3 (dn_of hi hj (by decide))), p5 := fun hj => (set_other (by decide)).trans (h.p5 (dn_of hi hj (by decide))), p8 := fun hj => (set_other (by decide)).trans (h.p8 (dn_of hi hj (by decide))), p9 := fun hj => (set_other (by decide)).trans (h.p9 (dn_of hi hj (by decide))), p10 := fun hj => (set_other (by decide)).trans (h.p10 (dn_of hi hj (by decide))), p11 := fun _ => set_same (by have := h.siz; omega), p12 := fun hj => (set_other (by decide)).trans (h.p12 (dn_of hi hj (by decide))), p13 := fun hj => (set_other (by decide)).trans (h.p13 (dn_of hi hj (by decide))), p2 := fun hj hk => by obtain ⟨ga, e1, e2, e3, e4⟩ := h.p2 (dn_of hi hj (by decide)) (fun q => hk (dn_up q)); exact ⟨ga, (set_other (by decide)).trans e1, e2, e3, fun gb hgb h6 => e4 gb (by rwa [set_other (by decide)] at hgb) (dn_of hi h6 (by decide))⟩, p4 := fun hj hk => by obtain ⟨u, e1, e2⟩ := h.p4 (dn_of hi hj (by decide)) (fun q => hk (dn_up q)); exact ⟨u, (set_other (by decide)).trans e1, e2⟩, p6 := fun hj hk => by obtain ⟨gb, e1, e2, e3⟩ := h.p6 (dn_of hi hj (by decide)) (fun q => hk (dn_up q)); exact ⟨gb, (set_other (by decide)).trans e1, e2, e3⟩, p7 := fun hj hk => by obtain ⟨u, e1, e2⟩ := h.p7 (dn_of hi hj (by decide)) (fun q => hk (dn_up q)); exact ⟨u, (set_other (by decide)).trans e1, e2⟩, p14 := fun hj hk => by obtain ⟨u, e1, e2⟩ := h.p14 (dn_of hi hj (by decide)) (fun q => hk (dn_up q)); exact ⟨u, (set_other (by decide)).trans e1, e2⟩, l15 := fun hj => absurd (dn_of hi hj (by decide)) h15, l16 := fun hj => absurd (dn_of hi hj (by decide)) h16, p15 := fun hj => absurd (dn_of hi hj (by decide)) h15, l4 := fun hj => (fun q => ⟨dn_up q.1, dn_up q.2⟩) (h.l4 (dn_of hi hj (by decide))), l6 := fun hj => dn_up (h.l6 (dn_of hi hj (by decide))), l7 := fun hj => (fun q => ⟨dn_up q.1, dn_up q.2⟩) (h.l7 (dn_of hi hj (by decide))), l9 := fun hj => dn_up (h.l9 (dn_of hi hj (by decide))), l12 := fun hj => absurd (h.l12 (dn_of hi hj (by decide))) hnd', l13 := fun hj => (fun q => ⟨dn_up q.1, dn_up q.2⟩) (h.l13 (dn_of hi hj (by decide))), l14 := fun hj => (fun q => ⟨dn_up q.1, dn_up q.2.1, dn_up q.2.2.1, dn_up q.2.2.2⟩) (h.l14 (dn_of hi hj (by decide))) }⟩
            · have hi : 12 < d.size := by omega
              have hnd' := not_dn hi hnd
              refine wpOp_plain rfl rfl ?_
              have h15 : ¬ dn d 15 := fun q => hnd' (h.l15 q _ (by decide))
              have h16 : ¬ dn d 16 := fun q => h15 (h.l16 q)
              have h14 : ¬ dn d 14 := fun q => hnd' (h.l13 (h.l14 q).2.2.2).2
              have e11 := h.p11 (hpre _ rfl ⟨11, .data⟩ (by simp) rfl)
              go_simp
              exact ⟨_, rfl, { siz := by simpa using h.siz, kp := fun i hi' => (set_other (by omega)).trans (h.kp i hi'), bel := fun _ => h.bel h15, k1 := (set_other (by decide)).trans h.k1, k3 := (set_other (by decide)).trans h.k3, k4 := (set_other (by decide)).trans h.k4, k9 := fun _ => (set_other (by decide)).trans (h.k9 h16), k10 := (set_other (by decide)).trans h.k10, k11 := (set_other (by decide)).trans h.k11, p0 := fun hj => (set_other (by decide)).trans (h.p0 (dn_of hi hj (by decide))), p1 := fun hj => (set_other (by decide)).trans (h.p1 (dn_of hi hj (by decide))), p3 := fun hj => (set_other (by decide)).trans (h.p3 (dn_of hi hj (by decide))), p5 := fun hj => (set_other (by decide)).trans (h.p5 (dn_of hi hj (by decide))), p8 := fun hj => (set_other (by decide)).trans (h.p8 (dn_of hi hj (by decide))), p9 := fun hj => (set_other (by decide)).trans (h.p9 (dn_of hi hj (by decide))), p10 := fun hj => (set_other (by decide)).trans (h.p10 (dn_of hi hj (by decide))), p11 := fun hj => (set_other (by decide)).trans (h.p11 (dn_of hi hj (by decide))), p12 := fun _ => set_same (by have := h.siz; omega), p13 := fun hj => (set_other (by decide)).trans (h.p13 (dn_of hi hj (by decide))), p2 := fun hj hk => by obtain ⟨ga, e1, e2, e3, e4⟩ := h.p2 (dn_of hi hj (by decide)) (fun q => hk (dn_up q)); exact ⟨ga, (set_other (by decide)).trans e1, e2, e3, fun gb hgb h6 => e4 gb (by rwa [set_other (by decide)] at hgb) (dn_of hi h6 (by decide))⟩, p4 := fun hj hk => by obtain ⟨u, e1, e2⟩ := h.p4 (dn_of hi hj (by decide)) (fun q => hk (dn_up q)); exact ⟨u, (set_other (by decide)).trans e1, e2⟩, p6 := fun hj hk => by obtain ⟨gb, e1, e2, e3⟩ := h.p6 (dn_of hi hj (by decide)) (fun q => hk (dn_up q)); exact ⟨gb, (set_other (by decide)).trans e1, e2, e3⟩, p7 := fun hj hk => by obtain ⟨u, e1, e2⟩ := h.p7 (dn_of hi hj (by decide)) (fun q => hk (dn_up q)); exact ⟨u, (set_other (by decide)).trans e1, e2⟩, p14 := fun hj hk => by obtain ⟨u, e1, e2⟩ := h.p14 (dn_of hi hj (by decide)) (fun q => hk (dn_up q)); exact ⟨u, (set_other (by decide)).trans e1, e2⟩, l15 := fun hj => absurd (dn_of hi hj (by decide)) h15, l16 := fun hj => absurd (dn_of hi hj (by decide)) h16, p15 := fun hj => absurd (dn_of hi hj (by decide)) h15, l4 := fun hj => (fun q => ⟨dn_up q.1, dn_up q.2⟩) (h.l4 (dn_of hi hj (by decide))), l6 := fun hj => dn_up (h.l6 (dn_of hi hj (by decide))), l7 := fun hj => (fun q => ⟨dn_up q.1, dn_up q.2⟩) (h.l7 (dn_of hi hj (by decide))), l9 := fun hj => dn_up (h.l9 (dn_of hi hj (by decide))), l12 := fun _ => dn_up (hpre _ rfl ⟨11, .data⟩ (by simp) rfl), l13 := fun hj => absurd (h.l13 (dn_of hi hj (by decide))).2 hnd', l14 := fun hj => (fun q => ⟨dn_up q.1, dn_up q.2.1, dn_up q.2.2.1, dn_up q.2.2.2⟩) (h.l14 (dn_of hi hj (by decide))) }⟩
            · have hi : 13 < d.size := by omega
              have hnd' := not_dn hi hnd
              refine wpOp_plain rfl rfl ?_
              have h15 : ¬ dn d 15 := fun q => hnd' (h.l15 q _ (by decide))
              have h16 : ¬ dn d 16 := fun q => h15 (h.l16 q)
              have h14 : ¬ dn d 14 := fun q => hnd' (h.l14 q).2.2.2
              have e10 := h.p10 (hpre _ rfl ⟨10, .data⟩ (by simp) rfl)
              have e12 := h.p12 (hpre _ rfl ⟨12, .data⟩ (by simp) rfl)
              go_simp
              exact ⟨_, rfl, { siz := by simpa using h.siz, kp := fun i hi' => (set_other (by omega)).trans (h.kp i hi'), bel := fun _ => h.bel h15, k1 := (set_other (by decide)).trans h.k1, k3 := (set_other (by decide)).trans h.k3, k4 := (set_other (by decide)).trans h.k4, k9 := fun _ => (set_other (by decide)).trans (h.k9 h16), k10 := (set_other (by decide)).trans h.k10, k11 := (set_other (by decide)).trans h.k11, p0 := fun hj => (set_other (by decide)).trans (h.p0 (dn_of hi hj (by decide))), p1 := fun hj => (set_other (by decide)).trans (h.p1 (dn_of hi hj (by decide))), p3 := fun hj => (set_other (by decide)).trans (h.p3 (dn_of hi hj (by decide))), p5 := fun hj => (set_other (by decide)).trans (h.p5 (dn_of hi hj (by decide))), p8 := fun hj => (set_other (by decide)).trans (h.p8 (dn_of hi hj (by decide))), p9 := fun hj => (set_other (by decide)).trans (h.p9 (dn_of hi hj (by decide))), p10 := fun hj => (set_other (by decide)).trans (h.p10 (dn_of hi hj (by decide))), p11 := fun hj => (set_other (by decide)).trans (h.p11 (dn_of hi hj (by decide))), p12 := fun hj => (set_other (by decide)).trans (h.p12 (dn_of hi hj (by decide))), p13 := fun _ => set_same (by have := h.siz; omega), p2 := fun hj hk => by obtain ⟨ga, e1, e2, e3, e4⟩ := h.p2 (dn_of hi hj (by decide)) (fun q => hk (dn_up q)); exact ⟨ga, (set_other (by decide)).trans e1, e2, e3, fun gb hgb h6 => e4 gb (by rwa [set_other (by decide)] at hgb) (dn_of hi h6 (by decide))⟩, p4 := fun hj hk => by obtain ⟨u, e1, e2⟩ := h.p4 (dn_of hi hj (by decide)) (fun q => hk (dn_up q)); exact ⟨u, (set_other (by decide)).trans e1, e2⟩, p6 := fun hj hk => by obtain ⟨gb, e1, e2, e3⟩ := h.p6 (dn_of hi hj (by decide)) (fun q => hk (dn_up q)); exact ⟨gb, (set_other (by decide)).trans e1, e2, e3⟩, p7 := fun hj hk => by obtain ⟨u, e1, e2⟩ := h.p7 (dn_of hi hj (by decide)) (fun q => hk (dn_up q)); exact ⟨u, (set_other (by decide)).trans e1, e2⟩, p14 := fun hj hk => by obtain ⟨u, e1, e2⟩ := h.p14 (dn_of hi hj (by decide)) (fun q => hk (dn_up q)); exact ⟨u, (set_other (by decide)).trans e1, e2⟩, l15 := fun hj => absurd (dn_of hi hj (by decide)) h15, l16 := fun hj => absurd (dn_of hi hj (by decide)) h16, p15 := fun hj => absurd (dn_of hi hj (by decide)) h15, l4 := fun hj => (fun q => ⟨dn_up q.1, dn_up q.2⟩) (h.l4 (dn_of hi hj (by decide))), l6 := fun hj => dn_up (h.l6 (dn_of hi hj (by decide))), l7 := fun hj => (fun q => ⟨dn_up q.1, dn_up q.2⟩) (h.l7 (dn_of hi hj (by decide))), l9 := fun hj => dn_up (h.l9 (dn_of hi hj (by decide))), l12 := fun hj => dn_up (h.l12 (dn_of hi hj (by decide))), l13 := fun _ => ⟨dn_up (hpre _ rfl ⟨10, .data⟩ (by simp) rfl), dn_up (hpre _ rfl ⟨12, .data⟩ (by simp) rfl)⟩, l14 := fun hj => absurd (h.l14 (dn_of hi hj (by decide))).2.2.2 hnd' }⟩
            · have hi : 14 < d.size := by omega
              have hnd' := not_dn hi hnd
              refine wpOp_plain rfl rfl ?_
              have h15 : ¬ dn d 15 := fun q => hnd' (h.l15 q _ (by decide))
              have h16 : ¬ dn d 16 := fun q => h15 (h.l16 q)
              have h14 : ¬ dn d 14 := hnd'
              have e1 := h.p1 (hpre _ rfl ⟨1, .data⟩ (by simp) rfl)
              have e9 := h.p9 (hpre _ rfl ⟨9, .data⟩ (by simp) rfl)
              have e13 := h.p13 (hpre _ rfl ⟨13, .data⟩ (by simp) rfl)
              obtain ⟨u7, e7, hr7⟩ := h.p7 (hpre _ rfl ⟨7, .data⟩ (by simp) rfl) h14
              go_simp
              refine (HREC.out wc u7 (h.bel h15) hr7).mono ?_
              rintro e1 w1 ⟨vr, rfl, hrr, hb⟩
              exact ⟨_, rfl, { siz := by simpa using h.siz, kp := fun i hi' => (set_other (by omega)).trans (h.kp i hi'), bel := fun _ => (h.bel h15).trans (hb.mono (h.bel h15).size), k1 := (set_other (by decide)).trans h.k1, k3 := (set_other (by decide)).trans h.k3, k4 := (set_other (by decide)).trans h.k4, k9 := fun _ => (set_other (by decide)).trans (h.k9 h16), k10 := (set_other (by decide)).trans h.k10, k11 := (set_other (by decide)).trans h.k11, p0 := fun hj => (set_other (by decide)).trans (h.p0 (dn_of hi hj (by decide))), p1 := fun hj => (set_other (by decide)).trans (h.p1 (dn_of hi hj (by decide))), p3 := fun hj => (set_other (by decide)).trans (h.p3 (dn_of hi hj (by decide))), p5 := fun hj => (set_other (by decide)).trans (h.p5 (dn_of hi hj (by decide))), p8 := fun hj => (set_other (by decide)).trans (h.p8 (dn_of hi hj (by decide))), p9 := fun hj => (set_other (by decide)).trans (h.p9 (dn_of hi hj (by decide))), p10 := fun hj => (set_other (by decide)).trans (h.p10 (dn_of hi hj (by decide))), p11 := fun hj => (set_other (by decide)).trans (h.p11 (dn_of hi hj (by decide))), p12 := fun hj => (set_other (by decide)).trans (h.p12 (dn_of hi hj (by decide))), p13 := fun hj => (set_other (by decide)).trans (h.p13 (dn_of hi hj (by decide))), p2 := fun hj hk => by obtain ⟨ga, e1, e2, e3, e4⟩ := h.p2 (dn_of hi hj (by decide)) (fun q => hk (dn_up q)); exact ⟨ga, (set_other (by decide)).trans e1, Nat.lt_of_lt_of_le e2 hb.size, keep_own e3 hb, fun gb hgb h6 => e4 gb (by rwa [set_other (by decide)] at hgb) (dn_of hi h6 (by decide))⟩, p4 := fun hj hk => by obtain ⟨u, e1, e2⟩ := h.p4 (dn_of hi hj (by decide)) (fun q => hk (dn_up q)); exact ⟨u, (set_other (by decide)).trans e1, keep_own e2 hb⟩, p6 := fun hj hk => by obtain ⟨gb, e1, e2, e3⟩ := h.p6 (dn_of hi hj (by decide)) (fun q => hk (dn_up q)); exact ⟨gb, (set_other (by decide)).trans e1, Nat.lt_of_lt_of_le e2 hb.size, (hb.block _ e2).trans e3⟩, p7 := fun _ hk => absurd (dn_self hi) hk, p14 := fun _ _ => ⟨vr, set_same (by have := h.siz; omega), hrr⟩, l15 := fun hj => absurd (dn_of hi hj (by decide)) h15, l16 := fun hj => absurd (dn_of hi hj (by decide)) h16, p15 := fun hj => absurd (dn_of hi hj (by decide)) h15, l4 := fun hj => (fun q => ⟨dn_up q.1, dn_up q.2⟩) (h.l4 (dn_of hi hj (by decide))), l6 := fun hj => dn_up (h.l6 (dn_of hi hj (by decide))), l7 := fun hj => (fun q => ⟨dn_up q.1, dn_up q.2⟩) (h.l7 (dn_of hi hj (by decide))), l9 := fun hj => dn_up (h.l9 (dn_of hi hj (by decide))), l12 := fun hj => dn_up (h.l12 (dn_of hi hj (by decide))), l13 := fun hj => (fun q => ⟨dn_up q.1, dn_up q.2⟩) (h.l13 (dn_of hi hj (by decide))), l14 := fun _ => ⟨dn_up (hpre _ rfl ⟨1, .data⟩ (by simp) rfl), dn_up (hpre _ rfl ⟨7, .data⟩ (by simp) rfl), dn_up (hpre _ rfl ⟨9, .data⟩ (by simp) rfl), dn_up (hpre _ rfl ⟨13, .data⟩ (by simp) rfl)⟩ }⟩
            · have hi : 15 < d.size := by omega
              have hnd' := not_dn hi hnd
              refine wpOp_plain rfl rfl ?_
              have h15 : ¬ dn d 15 := hnd'
              have h16 : ¬ dn d 16 := fun q => h15 (h.l16 q)
              have d14 : dn d 14 := hpre _ rfl ⟨14, .data⟩ (by simp) rfl
              have d0 : dn d 0 := hpre _ rfl ⟨0, .data⟩ (by simp) rfl
              have e0 := h.p0 d0
              obtain ⟨u, e14, hr14⟩ := h.p14 d14 h15
              obtain ⟨ys, hyl, hys, hyg⟩ := rdg_rows hr14 (fun b hb => hb.1)
              have hbl := h.bel h15
              obtain ⟨cells, hown, hrows⟩ := OUT.out.kept hbl
              refine wp_append_rd (enc := encSl) (.tmp 38) (.tmp 52) _ rfl (w.heap.size + 1) 27 i9 _ 1 24 len_sl one_sl Tryd.underlying132 hi9 hz9 hs9 hb9 rfl (by decide) (.slice Av nv cv) out.length cells (eval_tmp e0) hown wc.heap.size u ys (eval_tmp e14) hys (by simp only [maxLen]; omega) (by omega) (by have := hbl.size; omega) ?_
              intro v' w' hown' hg hat
              obtain ⟨A', c', hv'⟩ := own_form hown'
              subst hv'
              have hOG : OwnG KInts 27 w' (w.heap.size + 1) (.slice A' (out.length + ys.length) c') (out ++ ls) := OwnG.more hrows (hyg.keep (fun b hb => ⟨⟨hb.1, (fun q => by have := (hvlt _ q).2; omega), by have := hb.2; omega⟩, rfl⟩)) (by rw [← hyl]; exact hown') hg (hat.imp id fun q => ⟨_, q, Nat.le_refl _⟩)
              have hgr : wr.grownBy w' (Value.slice Av nv cv).ownBlock := grown_after (grown_of_below hbl) hg (.inl rfl)
              exact ⟨_, rfl, { siz := by simpa using h.siz, kp := fun i hi' => (set_other (by omega)).trans (h.kp i hi'), bel := fun hk => absurd (dn_self hi) hk, k1 := (set_other (by decide)).trans h.k1, k3 := (set_other (by decide)).trans h.k3, k4 := (set_other (by decide)).trans h.k4, k9 := fun _ => (set_other (by decide)).trans (h.k9 h16), k10 := (set_other (by decide)).trans h.k10, k11 := (set_other (by decide)).trans h.k11, p0 := fun hj => (set_other (by decide)).trans (h.p0 (dn_of hi hj (by decide))), p1 := fun hj => (set_other (by decide)).trans (h.p1 (dn_of hi hj (by decide))), p3 := fun hj => (set_other (by decide)).trans (h.p3 (dn_of hi hj (by decide))), p5 := fun hj => (set_other (by decide)).trans (h.p5 (dn_of hi hj (by decide))), p8 := fun hj => (set_other (by decide)).trans (h.p8 (dn_of hi hj (by decide))), p9 := fun hj => (set_other (by decide)).trans (h.p9 (dn_of hi hj (by decide))), p10 := fun hj => (set_other (by decide)).trans (h.p10 (dn_of hi hj (by decide))), p11 := fun hj => (set_other (by decide)).trans (h.p11 (dn_of hi hj (by decide))), p12 := fun hj => (set_other (by decide)).trans (h.p12 (dn_of hi hj (by decide))), p13 := fun hj => (set_other (by decide)).trans (h.p13 (dn_of hi hj (by decide))), p2 := fun _ hk => absurd (dn_up (h.l7 (h.l14 d14).2.1).1) hk, p4 := fun _ hk => absurd (dn_up (h.l14 d14).2.1) hk, p6 := fun _ hk => absurd (dn_up (h.l14 d14).2.1) hk, p7 := fun _ hk => absurd (dn_up d14) hk, p14 := fun _ hk => absurd (dn_self hi) hk, l15 := fun _ j hj => dn_up (all15 h.l4 h.l6 h.l7 h.l9 h.l12 h.l13 h.l14 d0 d14 j hj), l16 := fun _ => dn_self hi, p15 := fun _ => ⟨A', _, c', set_same (by have := h.siz; show 53 < a.size; omega), hOG, hgr, fun h16' => absurd (dn_of hi h16' (by decide)) h16⟩, l4 := fun hj => (fun q => ⟨dn_up q.1, dn_up q.2⟩) (h.l4 (dn_of hi hj (by decide))), l6 := fun hj => dn_up (h.l6 (dn_of hi hj (by decide))), l7 := fun hj => (fun q => ⟨dn_up q.1, dn_up q.2⟩) (h.l7 (dn_of hi hj (by decide))), l9 := fun hj => dn_up (h.l9 (dn_of hi hj (by decide))), l12 := fun hj => dn_up (h.l12 (dn_of hi hj (by decide))), l13 := fun hj => (fun q => ⟨dn_up q.1, dn_up q.2⟩) (h.l13 (dn_of hi hj (by decide))), l14 := fun hj => (fun q => ⟨dn_up q.1, dn_up q.2.1, dn_up q.2.2.1, dn_up q.2.2.2⟩) (h.l14 (dn_of hi hj (by decide))) }⟩
            · have hi : 16 < d.size := by omega
              have hnd' := not_dn hi hnd
              refine wpOp_plain rfl rfl ?_
              have d15 : dn d 15 := hpre _ rfl ⟨15, .data⟩ (by simp) rfl
              have h16 : ¬ dn d 16 := hnd'
              obtain ⟨A', n', c', e15, hOG, hgr, -⟩ := h.p15 d15
              go_simp
              exact ⟨_, rfl, { siz := by simpa using h.siz, kp := fun i hi' => (set_other (by omega)).trans (h.kp i hi'), bel := fun hk => absurd (dn_up d15) hk, k1 := (set_other (by decide)).trans h.k1, k3 := (set_other (by decide)).trans h.k3, k4 := (set_other (by decide)).trans h.k4, k9 := fun hk => absurd (dn_self hi) hk, k10 := (set_other (by decide)).trans h.k10, k11 := (set_other (by decide)).trans h.k11, p0 := fun hj => (set_other (by decide)).trans (h.p0 (dn_of hi hj (by decide))), p1 := fun hj => (set_other (by decide)).trans (h.p1 (dn_of hi hj (by decide))), p3 := fun hj => (set_other (by decide)).trans (h.p3 (dn_of hi hj (by decide))), p5 := fun hj => (set_other (by decide)).trans (h.p5 (dn_of hi hj (by decide))), p8 := fun hj => (set_other (by decide)).trans (h.p8 (dn_of hi hj (by decide))), p9 := fun hj => (set_other (by decide)).trans (h.p9 (dn_of hi hj (by decide))), p10 := fun hj => (set_other (by decide)).trans (h.p10 (dn_of hi hj (by decide))), p11 := fun hj => (set_other (by decide)).trans (h.p11 (dn_of hi hj (by decide))), p12 := fun hj => (set_other (by decide)).trans (h.p12 (dn_of hi hj (by decide))), p13 := fun hj => (set_other (by decide)).trans (h.p13 (dn_of hi hj (by decide))), p2 := fun _ hk => absurd (dn_up (h.l15 d15 4 (by decide))) hk, p4 := fun _ hk => absurd (dn_up (h.l15 d15 7 (by decide))) hk, p6 := fun _ hk => absurd (dn_up (h.l15 d15 7 (by decide))) hk, p7 := fun _ hk => absurd (dn_up (h.l15 d15 14 (by decide))) hk, p14 := fun _ hk => absurd (dn_up d15) hk, l15 := fun _ j hj => dn_up (h.l15 d15 j hj), l16 := fun _ => dn_up d15, p15 := fun _ => ⟨A', n', c', (set_other (by decide)).trans e15, hOG, hgr, fun _ => set_same (by have := h.siz; omega)⟩, l4 := fun hj => (fun q => ⟨dn_up q.1, dn_up q.2⟩) (h.l4 (dn_of hi hj (by decide))), l6 := fun hj => dn_up (h.l6 (dn_of hi hj (by decide))), l7 := fun hj => (fun q => ⟨dn_up q.1, dn_up q.2⟩) (h.l7 (dn_of hi hj (by decide))), l9 := fun hj => dn_up (h.l9 (dn_of hi hj (by decide))), l12 := fun hj => dn_up (h.l12 (dn_of hi hj (by decide))), l13 := fun hj => (fun q => ⟨dn_up q.1, dn_up q.2⟩) (h.l13 (dn_of hi hj (by decide))), l14 := fun hj => (fun q => ⟨dn_up q.1, dn_up q.2.1, dn_up q.2.2.1, dn_up q.2.2.2⟩) (h.l14 (dn_of hi hj (by decide))) }⟩
      · have HF : Hid (Lx.tailsV x k begun first t.data.toList = Lx.tailsTo x (k - 1) begun t.data.toList first j) := Lib.hid (by
          cases k with
          | zero => rw [hk0 rfl, Lx.tailsTo_self, Lx.tailsV_zero HTN.out]
          | succ K => rw [Lx.tailsV_succ HTN.out, show j = x.clitics.length by omega]; rfl)
        by_cases hlt : j < x.clitics.length
        · have hl3 : begun.length = 3 := by omega
          have hlI : ¬ (begun.length : Int) < 3 := by omega
          go_wp2_with fail
          go_ret
          exact ⟨_, rfl, by rw [HF.out]; exact HOG.out.rd.keep (fun b hb => ⟨⟨hb.1, .inr (by omega)⟩, rfl⟩), HBEL.out⟩
        · have hjI : ¬ (j : Int) < (x.clitics.length : Int) := by omega
          go_wp2_with fail
          go_ret
          exact ⟨_, rfl, by rw [HF.out]; exact HOG.out.rd.keep (fun b hb => ⟨⟨hb.1, .inr (by omega)⟩, rfl⟩), HBEL.out⟩

theorem rtails_any (x : Lx.Lexicon) (hchk : Lx.checkV x = 0) : ∀ k, TailsSays x k
  | 0 => tails_step x hchk 0 (fun k h => by cases h)
  | k + 1 => tails_step x hchk (k + 1) (fun k' h => by cases h; exact rtails_any x hchk k)
end Go.Proofs.YtpmfjndbckblfaaDoor
