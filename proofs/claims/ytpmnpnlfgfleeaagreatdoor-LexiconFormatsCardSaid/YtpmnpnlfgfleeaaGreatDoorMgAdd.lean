/- (*ranked).add: one more into a list that is in order. Made by gen_add.py. -/
import Derived.Test.YtpmnpnlfgfleeaaGreatDoorMgBegin
namespace Go.Proofs.YtpmnpnlfgfleeaaGreatDoor
open Go.RowKit

def encP (p : Option Addr) : List Value := [.pointer p]
theorem len_ptr (p : Option Addr) : (encP p).length = 1 := rfl
theorem one_ptr (p : Option Addr) : ∀ u ∈ encP p, u.oneCell' = true := by intro u hu; simp [encP] at hu; subst hu; rfl
theorem info_ptail : (Tryz.prog.info? 114).map (fun i => (i.zero, i.size, i.bytes)) = some (some (.pointer none), 1, 8) := by kernel_rfl
theorem all11 {p : Nat → Prop} (l2 : p 2 → p 1) (l3 : p 3 → p 2) (l4 : p 4 → p 3) (l7 : p 7 → p 6) (l8 : p 8 → p 4 ∧ p 5 ∧ p 7) (l9 : p 9 → p 0) (l10 : p 10 → p 9) (d8 : p 8) (d10 : p 10) : ∀ j, j < 11 → p j := by
  intro j hj
  obtain ⟨d4, d5, d7⟩ := l8 d8
  have d6 := l7 d7
  have d3 := l4 d4
  have d2 := l3 d3
  have d1 := l2 d2
  have d9 := l10 d10
  have d0 := l9 d9
  have : j = 0 ∨ j = 1 ∨ j = 2 ∨ j = 3 ∨ j = 4 ∨ j = 5 ∨ j = 6 ∨ j = 7 ∨ j = 8 ∨ j = 9 ∨ j = 10 := by omega
  rcases this with rfl | rfl | rfl | rfl | rfl | rfl | rfl | rfl | rfl | rfl | rfl <;> assumption
theorem all18 {p : Nat → Prop} (l2 : p 2 → p 1) (l3 : p 3 → p 2) (l4 : p 4 → p 3) (l6 : p 6 → p 5) (l7 : p 7 → p 6) (l8 : p 8 → p 7) (l9 : p 9 → p 8) (l11 : p 11 → p 10) (l12 : p 12 → p 11) (l13 : p 13 → p 12) (l14 : p 14 → p 9 ∧ p 13) (l15 : p 15 → p 4 ∧ p 14) (l16 : p 16 → p 0) (l17 : p 17 → p 16) (d15 : p 15) (d17 : p 17) : ∀ j, j < 18 → p j := by
  intro j hj
  obtain ⟨d4, d14⟩ := l15 d15
  obtain ⟨d9, d13⟩ := l14 d14
  have d12 := l13 d13
  have d11 := l12 d12
  have d10 := l11 d11
  have d8 := l9 d9
  have d7 := l8 d8
  have d6 := l7 d7
  have d5 := l6 d6
  have d3 := l4 d4
  have d2 := l3 d3
  have d1 := l2 d2
  have d16 := l17 d17
  have d0 := l16 d16
  have : j = 0 ∨ j = 1 ∨ j = 2 ∨ j = 3 ∨ j = 4 ∨ j = 5 ∨ j = 6 ∨ j = 7 ∨ j = 8 ∨ j = 9 ∨ j = 10 ∨ j = 11 ∨ j = 12 ∨ j = 13 ∨ j = 14 ∨ j = 15 ∨ j = 16 ∨ j = 17 := by omega
  rcases this with rfl | rfl | rfl | rfl | rfl | rfl | rfl | rfl | rfl | rfl | rfl | rfl | rfl | rfl | rfl | rfl | rfl | rfl <;> assumption
structure AdR (W0 : World) (base R b2 i n : Nat) (p : Option Addr) (v : Value) (xs ys : List Value) (d : Array Bool) (t : Array Value) (wc : World) : Prop where
  siz : t.size = 51
  gro : ¬ dn d 11 → W0.grownBy wc v.ownBlock
  own : ¬ dn d 8 → Below W0.heap.size W0 wc
  k1 : t[1]? = some (.pointer p)
  k2 : t[2]? = some (.pointer (some ⟨b2, 0, none⟩))
  k4 : t[4]? = some (.int .i64 (i : Int))
  p0 : dn d 0 → t[22]? = some (.pointer (some ⟨R, 0, none⟩))
  p1 : dn d 1 → t[23]? = some (.pointer (some ⟨R, 0, none⟩))
  p2 : dn d 2 → t[24]? = some (.pointer (some ⟨R, 0, none⟩))
  p3 : dn d 3 → t[25]? = some (.pointer (some ⟨R, 0, none⟩))
  p4 : dn d 4 → t[26]? = some (v)
  p5 : dn d 5 → t[27]? = some (.int .i64 (i : Int))
  p6 : dn d 6 → t[28]? = some (.pointer p)
  p9 : dn d 9 → t[31]? = some (.pointer (some ⟨R, 0, none⟩))
  p10 : dn d 10 → t[32]? = some (.pointer (some ⟨R, 0, none⟩))
  p7 : dn d 7 → ¬ dn d 8 → ∃ g, t[29]? = some (.slice (some ⟨g, 0, none⟩) 1 1) ∧ wc.heap[g]? = some (.cells #[.pointer p] 114 (0, 0)) ∧ W0.heap.size ≤ g
  p8 : dn d 8 → ¬ dn d 11 → ∃ A c, t[30]? = some (.slice A (n + 1) c) ∧ wc.ownsRow base 114 1 (.slice A (n + 1) c) (n + 1) ys
  l11 : dn d 11 → ∀ j, j < 11 → dn d j
  p11 : dn d 11 → ∃ A c wq, W0.grownBy wq v.ownBlock ∧ wq.ownsRow base 114 1 (.slice A (n + 1) c) (n + 1) ys ∧ wc = wq.setCell ⟨R, 0, none⟩ (.slice A (n + 1) c)
  l2 : dn d 2 → dn d 1
  l3 : dn d 3 → dn d 2
  l4 : dn d 4 → dn d 3
  l7 : dn d 7 → dn d 6
  l8 : dn d 8 → dn d 4 ∧ dn d 5 ∧ dn d 7
  l9 : dn d 9 → dn d 0
  l10 : dn d 10 → dn d 9
def AdI (W0 : World) (base R b2 i n : Nat) (p : Option Addr) (v : Value) (xs ys : List Value) (d : Array Bool) (a : Act) (wc : World) : Prop := ∃ t : Array Value, a = ⟨t, []⟩ ∧ AdR W0 base R b2 i n p v xs ys d t wc
structure AeR (W0 : World) (R b2 n most c : Nat) (A : Option Addr) (v : Value) (d : Array Bool) (t : Array Value) (wc : World) : Prop where
  siz : t.size = 51
  wor : ¬ dn d 18 → wc = W0.drew
  k2 : t[2]? = some (.pointer (some ⟨b2, 0, none⟩))
  p0 : dn d 0 → t[33]? = some (.pointer (some ⟨R, 0, none⟩))
  p1 : dn d 1 → t[34]? = some (.pointer (some ⟨R, 0, none⟩))
  p2 : dn d 2 → t[35]? = some (.pointer (some ⟨R, 0, none⟩))
  p3 : dn d 3 → t[36]? = some (.pointer (some ⟨R, 0, none⟩))
  p4 : dn d 4 → t[37]? = some (v)
  p5 : dn d 5 → t[38]? = some (.pointer (some ⟨R, 0, none⟩))
  p6 : dn d 6 → t[39]? = some (.pointer (some ⟨R, 0, none⟩))
  p7 : dn d 7 → t[40]? = some (.pointer (some ⟨R, 0, none⟩))
  p8 : dn d 8 → t[41]? = some (v)
  p9 : dn d 9 → t[42]? = some (.int .i64 (n : Int))
  p10 : dn d 10 → t[43]? = some (.pointer (some ⟨R, 0, none⟩))
  p11 : dn d 11 → t[44]? = some (.pointer (some ⟨R, 0, none⟩))
  p12 : dn d 12 → t[45]? = some (.pointer (some ⟨R, 1, none⟩))
  p13 : dn d 13 → t[46]? = some (.int .i64 (most : Int))
  p14 : dn d 14 → t[47]? = some (.int .i64 (min n most : Nat))
  p15 : dn d 15 → t[48]? = some (.slice A (min n most) c)
  p16 : dn d 16 → t[49]? = some (.pointer (some ⟨R, 0, none⟩))
  p17 : dn d 17 → t[50]? = some (.pointer (some ⟨R, 0, none⟩))
  l18 : dn d 18 → ∀ j, j < 18 → dn d j
  p18 : dn d 18 → wc = W0.drew.setCell ⟨R, 0, none⟩ (.slice A (min n most) c)
  l2 : dn d 2 → dn d 1
  l3 : dn d 3 → dn d 2
  l4 : dn d 4 → dn d 3
  l6 : dn d 6 → dn d 5
  l7 : dn d 7 → dn d 6
  l8 : dn d 8 → dn d 7
  l9 : dn d 9 → dn d 8
  l11 : dn d 11 → dn d 10
  l12 : dn d 12 → dn d 11
  l13 : dn d 13 → dn d 12
  l14 : dn d 14 → dn d 9 ∧ dn d 13
  l15 : dn d 15 → dn d 4 ∧ dn d 14
  l16 : dn d 16 → dn d 0
  l17 : dn d 17 → dn d 16
def AeI (W0 : World) (R b2 n most c : Nat) (A : Option Addr) (v : Value) (d : Array Bool) (a : Act) (wc : World) : Prop := ∃ t : Array Value, a = ⟨t, []⟩ ∧ AeR W0 R b2 n most c A v d t wc

/-- the first elements of a row of the call's own -/
theorem own_take {w : World} {base : Nat} {e : TypeId} {A : Option Addr} {n c m : Nat} {xs : List Value} (h : w.ownsRow base e 1 (.slice A n c) n xs) (hm : m ≤ n) : w.ownsRow base e 1 (.slice A m c) m (xs.take m) := by
  obtain ⟨h1, h2⟩ := h
  refine ⟨by rw [List.length_take, h1]; omega, ?_⟩
  rcases h2 with ⟨e1, h0⟩ | ⟨g, cap, cur, e1, hg, hh, hle, hmx, hs, ht⟩
  · injection e1 with e1 e2 e3
    subst e1 e3
    have : m = 0 := by omega
    subst this
    exact .inl ⟨rfl, rfl⟩
  · injection e1 with e1 e2 e3
    subst e1 e3
    exact .inr ⟨g, c, cur, rfl, hg, hh, by omega, hmx, hs, by rw [← ht, List.take_take]; congr 1; omega⟩

/-- what is asked of slices.Insert -/
def InsSays (w : World) (base i n : Nat) (p : Option Addr) (v : Value) (_xs ys : List Value) : Prop :=
  ∀ (W : World) (u : Nat), Below w.heap.size w W → W.heap[u]? = some (.cells #[.pointer p] 114 (0, 0)) → w.heap.size ≤ u →
    Calls Tryz.prog 93 #[v, .int .i64 i, .slice (some ⟨u, 0, none⟩) 1 1] W (fun e w' => ∃ A c, e = .returned (.slice A (n + 1) c) ∧ w'.ownsRow base 114 1 (.slice A (n + 1) c) (n + 1) ys ∧ W.grownBy w' v.ownBlock)

def AddPost (w : World) (base R i n most : Nat) (v fv : Value) (ys : List Value) (e : Ending) (w' : World) : Prop :=
  e = .returned (.tuple #[]) ∧ ∃ v', w'.heap[R]? = some (.cells #[v', .int .i64 most, fv] 113 (0, 0)) ∧
    (if i < most then ∃ A c, v' = .slice A (min (n + 1) most) c ∧ w'.ownsRow base 114 1 v' (min (n + 1) most) (ys.take (min (n + 1) most)) else v' = v ∧ Below w.heap.size w w') ∧
    ∃ wq, w.grownBy wq v.ownBlock ∧ wq.grownBy w' (some R)

set_option maxRecDepth 100000 in
set_option maxHeartbeats 4000000 in
theorem add_any (w : World) (base R i n most : Nat) (p : Option Addr) (v fv : Value) (xs ys : List Value) (hR : w.heap[R]? = some (.cells #[v, .int .i64 most, fv] 113 (0, 0))) (hown : w.ownsRow base 114 1 v n xs) (hRv : v.ownBlock ≠ some R) (hRb : R < base)
    (_hmost : most ≤ 64) (hn : n ≤ 64) (hbase : base ≤ w.heap.size)
    (hbs : Calls Tryz.prog 90 #[v, .pointer p, .func (.func 91) #[] #[.pointer (some ⟨w.heap.size, 0, none⟩)]] (w.alloc (.cells #[.pointer (some ⟨R, 0, none⟩)] 134)) (fun e w' => ∃ b, e = .returned (.tuple #[.int .i64 i, .bool b]) ∧ Below (w.heap.size + 1) (w.alloc (.cells #[.pointer (some ⟨R, 0, none⟩)] 134)) w'))
    (hins : i < most → InsSays w base i n p v xs ys) :
    Calls Tryz.prog 64 #[.pointer (some ⟨R, 0, none⟩), .pointer p] w (AddPost w base R i n most v fv ys) := by
  have HBS := Lib.hid hbs
  have HI := Lib.hid hins
  have HR := Lib.hid hR
  have HOWN := Lib.hid hown
  have hRl : R < w.heap.size := (Array.getElem?_eq_some_iff.1 hR).1
  obtain ⟨Av, cv, rfl⟩ := own_form hown
  have r0 : w.cell? ⟨R, 0, none⟩ = some (.slice Av n cv) := by simp [World.cell?, hR]
  have r1 : w.cell? ⟨R, 1, none⟩ = some (.int .i64 most) := by simp [World.cell?, hR]
  clear hbs hins hR hown
  go_enter Tryz.func64, Tryz.ntmps64
  go_wp2_with fail
  refine HBS.out.mono ?_
  rintro e1 w1 ⟨b, rfl, hb1⟩
  have hs1 : w.heap.size + 1 ≤ w1.heap.size := by have := hb1.size; simp at this; omega
  have HB1 : Hid (Below w.heap.size w w1) := Lib.hid (((Below.refl _ _).alloc (Nat.le_refl _) _).trans (hb1.mono (by omega)))
  have HX1 : Hid (w1.heap[w.heap.size]? = some (.cells #[.pointer (some ⟨R, 0, none⟩)] 134 (0, 0))) := Lib.hid ((hb1.block _ (by omega)).trans (heap_alloc_new _ _))
  have HR1 : Hid (w1.heap[R]? = some (.cells #[.slice Av n cv, .int .i64 most, fv] 113 (0, 0))) := Lib.hid ((HB1.out.block _ hRl).trans HR.out)
  have HO1 : Hid (w1.ownsRow base 114 1 (.slice Av n cv) n xs) := Lib.hid (HOWN.out.kept (grown_of_below (row := none) HB1.out) (by
    rcases HOWN.out.2 with ⟨e, _⟩ | ⟨g, cap, cur, e, _⟩
    · rw [e]; exact .inl rfl
    · rw [e]; exact .inr (by simp [Value.ownBlock])))
  have x0 : w1.cell? ⟨w.heap.size, 0, none⟩ = some (.pointer (some ⟨R, 0, none⟩)) := by simp [World.cell?, HX1.out]
  have r0' : w1.cell? ⟨R, 0, none⟩ = some (.slice Av n cv) := by simp [World.cell?, HR1.out]
  have r1' : w1.cell? ⟨R, 1, none⟩ = some (.int .i64 most) := by simp [World.cell?, HR1.out]
  have hvl : ∀ g, (Value.slice Av n cv).ownBlock = some g → base ≤ g ∧ g < w.heap.size := HOWN.out.lt
  clear hb1 r0 r1
  by_cases him : i < most
  · have HIN := Lib.hid (HI.out him)
    have himI : (i : Int) < (most : Int) := by omega
    go_wp2_with fail
    have hRne : ∀ g, (Value.slice Av n cv).ownBlock = some g → g ≠ R ∧ g ≠ w.heap.size := fun g hg => ⟨fun e => hRv (by rw [hg, e]), fun e => by have := (hvl g hg).2; omega⟩
    have BX : Hid (∀ W, w1.grownBy W (Value.slice Av n cv).ownBlock → W.cell? ⟨w.heap.size, 0, none⟩ = some (.pointer (some ⟨R, 0, none⟩)) ∧ W.cell? ⟨R, 0, none⟩ = some (.slice Av n cv) ∧ W.frozen? ⟨R, 0, none⟩ = false) := Lib.hid fun W hW => by
      have a1 := (hW.block w.heap.size (by omega) (fun q => (hRne _ q.symm).2 rfl)).trans HX1.out
      have a2 := (hW.block R (by omega) (fun q => (hRne _ q.symm).1 rfl)).trans HR1.out
      exact ⟨by simp [World.cell?, a1], by simp [World.cell?, a2], by simp [World.frozen?, a2]⟩
    have HINS : Hid (∀ (W : World) (u : Nat), Below w1.heap.size w1 W → W.heap[u]? = some (.cells #[.pointer p] 114 (0, 0)) → w1.heap.size ≤ u →
        Calls Tryz.prog 93 #[.slice Av n cv, .int .i64 i, .slice (some ⟨u, 0, none⟩) 1 1] W (fun e w' => ∃ A c, e = .returned (.slice A (n + 1) c) ∧ w'.ownsRow base 114 1 (.slice A (n + 1) c) (n + 1) ys ∧ W.grownBy w' (Value.slice Av n cv).ownBlock)) :=
      Lib.hid fun W u hW hu hul => HIN.out W u (HB1.out.trans (hW.mono (by omega))) hu (by omega)
    clear HIN
    refine wp_region_inv (AdI w1 base R w.heap.size i n p (.slice Av n cv) xs ys) (by kernel_rfl) (by kernel_rfl) ?h0 ?hstep ?hend
    case h0 =>
      have hno : ∀ j, ¬ dn (Array.replicate 12 false) j := by
        intro j; unfold dn; by_cases hj : j < 12 <;> simp [Array.getD, hj]
      exact ⟨_, rfl, { siz := rfl, gro := fun _ => grown_of_below ((Below.refl _ _).drew), own := fun _ => (Below.refl _ _).drew, k1 := rfl, k2 := rfl, k4 := rfl, p0 := fun hj => absurd hj (hno _), p1 := fun hj => absurd hj (hno _), p2 := fun hj => absurd hj (hno _), p3 := fun hj => absurd hj (hno _), p4 := fun hj => absurd hj (hno _), p5 := fun hj => absurd hj (hno _), p6 := fun hj => absurd hj (hno _), p9 := fun hj => absurd hj (hno _), p10 := fun hj => absurd hj (hno _), p7 := fun hj => absurd hj (hno _), p8 := fun hj => absurd hj (hno _), l11 := fun hj => absurd hj (hno _), p11 := fun hj => absurd hj (hno _), l2 := fun hj => absurd hj (hno _), l3 := fun hj => absurd hj (hno _), l4 := fun hj => absurd hj (hno _), l7 := fun hj => absurd hj (hno _), l8 := fun hj => absurd hj (hno _), l9 := fun hj => absurd hj (hno _), l10 := fun hj => absurd hj (hno _) }⟩
    case hend =>
      intro d a wc hd hI hall
      obtain ⟨t, rfl, h⟩ := hI
      obtain ⟨A8, c8, wq, hgq, hown8, hwc⟩ := h.p11 (dn_all (n := 12) hd hall (by decide))
      have k2 := h.k2
      have hRs : R < w1.heap.size := by omega
      have hq0 : wq.heap[R]? = some (.cells #[.slice Av n cv, .int .i64 most, fv] 113 (0, 0)) := (hgq.block R hRs (fun q => (hRne _ q.symm).1 rfl)).trans HR1.out
      have hgc : wq.grownBy wc (some R) := by rw [hwc]; exact grown_setCell _ _ _ _
      have hsq := hgq.size
      have hA8 : (Value.slice A8 (n + 1) c8).ownBlock ≠ some R := by
        intro e
        rcases hown8.2 with ⟨e1, _⟩ | ⟨g, cap, cur, e1, _, hh, _⟩
        · rw [e1] at e; simp [Value.ownBlock] at e
        · rw [e1] at e
          simp [Value.ownBlock] at e
          rw [e, hq0] at hh
          simp at hh
      have HA8 := Lib.hid hA8
      have HOW : Hid (wc.ownsRow base 114 1 (.slice A8 (n + 1) c8) (n + 1) ys) := Lib.hid (hown8.kept hgc (.inr hA8))
      have HBX2 : Hid (wc.heap[w.heap.size]? = some (.cells #[.pointer (some ⟨R, 0, none⟩)] 134 (0, 0))) := Lib.hid ((hgc.block _ (by omega) (by intro q; cases q; omega)).trans ((hgq.block _ (by omega) (fun q => (hRne _ q.symm).2 rfl)).trans HX1.out))
      have HR2 : Hid (wc.heap[R]? = some (.cells #[.slice A8 (n + 1) c8, .int .i64 most, fv] 113 (0, 0))) := Lib.hid (by
        rw [hwc]; simp [World.setCell, Array.getElem?_modify, hq0])
      have HGQ : Hid (w.grownBy wq (Value.slice Av n cv).ownBlock) := Lib.hid (grown_after (grown_of_below HB1.out) hgq (.inl rfl))
      have HGC := Lib.hid hgc
      obtain ⟨hcap1, hcap2⟩ : n + 1 ≤ c8 ∧ c8 ≤ 9223372036854775807 := by
        rcases hown8.2 with ⟨e1, h0⟩ | ⟨g, cap, cur, e1, _, hh, hle, hm, _⟩
        · omega
        · injection e1 with _ _ e3
          subst e3
          exact ⟨hle, by simpa [maxLen] using hm⟩
      have hl : t.toList.length = 51 := h.siz
      obtain ⟨l⟩ := t
      simp only [] at hl
      obtain ⟨t0, l, rfl⟩ := List.exists_cons_of_length_eq_add_one (n := 50) hl; replace hl : l.length = 50 := (by simpa using hl)
      obtain ⟨t1, l, rfl⟩ := List.exists_cons_of_length_eq_add_one (n := 49) hl; replace hl : l.length = 49 := (by simpa using hl)
      obtain ⟨t2, l, rfl⟩ := List.exists_cons_of_length_eq_add_one (n := 48) hl; replace hl : l.length = 48 := (by simpa using hl)
      obtain ⟨t3, l, rfl⟩ := List.exists_cons_of_length_eq_add_one (n := 47) hl; replace hl : l.length = 47 := (by simpa using hl)
      obtain ⟨t4, l, rfl⟩ := List.exists_cons_of_length_eq_add_one (n := 46) hl; replace hl : l.length = 46 := (by simpa using hl)
      obtain ⟨t5, l, rfl⟩ := List.exists_cons_of_length_eq_add_one (n := 45) hl; replace hl : l.length = 45 := (by simpa using hl)
      obtain ⟨t6, l, rfl⟩ := List.exists_cons_of_length_eq_add_one (n := 44) hl; replace hl : l.length = 44 := (by simpa using hl)
      obtain ⟨t7, l, rfl⟩ := List.exists_cons_of_length_eq_add_one (n := 43) hl; replace hl : l.length = 43 := (by simpa using hl)
      obtain ⟨t8, l, rfl⟩ := List.exists_cons_of_length_eq_add_one (n := 42) hl; replace hl : l.length = 42 := (by simpa using hl)
      obtain ⟨t9, l, rfl⟩ := List.exists_cons_of_length_eq_add_one (n := 41) hl; replace hl : l.length = 41 := (by simpa using hl)
      obtain ⟨t10, l, rfl⟩ := List.exists_cons_of_length_eq_add_one (n := 40) hl; replace hl : l.length = 40 := (by simpa using hl)
      obtain ⟨t11, l, rfl⟩ := List.exists_cons_of_length_eq_add_one (n := 39) hl; replace hl : l.length = 39 := (by simpa using hl)
      obtain ⟨t12, l, rfl⟩ := List.exists_cons_of_length_eq_add_one (n := 38) hl; replace hl : l.length = 38 := (by simpa using hl)
      obtain ⟨t13, l, rfl⟩ := List.exists_cons_of_length_eq_add_one (n := 37) hl; replace hl : l.length = 37 := (by simpa using hl)
      obtain ⟨t14, l, rfl⟩ := List.exists_cons_of_length_eq_add_one (n := 36) hl; replace hl : l.length = 36 := (by simpa using hl)
      obtain ⟨t15, l, rfl⟩ := List.exists_cons_of_length_eq_add_one (n := 35) hl; replace hl : l.length = 35 := (by simpa using hl)
      obtain ⟨t16, l, rfl⟩ := List.exists_cons_of_length_eq_add_one (n := 34) hl; replace hl : l.length = 34 := (by simpa using hl)
      obtain ⟨t17, l, rfl⟩ := List.exists_cons_of_length_eq_add_one (n := 33) hl; replace hl : l.length = 33 := (by simpa using hl)
      obtain ⟨t18, l, rfl⟩ := List.exists_cons_of_length_eq_add_one (n := 32) hl; replace hl : l.length = 32 := (by simpa using hl)
      obtain ⟨t19, l, rfl⟩ := List.exists_cons_of_length_eq_add_one (n := 31) hl; replace hl : l.length = 31 := (by simpa using hl)
      obtain ⟨t20, l, rfl⟩ := List.exists_cons_of_length_eq_add_one (n := 30) hl; replace hl : l.length = 30 := (by simpa using hl)
      obtain ⟨t21, l, rfl⟩ := List.exists_cons_of_length_eq_add_one (n := 29) hl; replace hl : l.length = 29 := (by simpa using hl)
      obtain ⟨t22, l, rfl⟩ := List.exists_cons_of_length_eq_add_one (n := 28) hl; replace hl : l.length = 28 := (by simpa using hl)
      obtain ⟨t23, l, rfl⟩ := List.exists_cons_of_length_eq_add_one (n := 27) hl; replace hl : l.length = 27 := (by simpa using hl)
      obtain ⟨t24, l, rfl⟩ := List.exists_cons_of_length_eq_add_one (n := 26) hl; replace hl : l.length = 26 := (by simpa using hl)
      obtain ⟨t25, l, rfl⟩ := List.exists_cons_of_length_eq_add_one (n := 25) hl; replace hl : l.length = 25 := (by simpa using hl)
      obtain ⟨t26, l, rfl⟩ := List.exists_cons_of_length_eq_add_one (n := 24) hl; replace hl : l.length = 24 := (by simpa using hl)
      obtain ⟨t27, l, rfl⟩ := List.exists_cons_of_length_eq_add_one (n := 23) hl; replace hl : l.length = 23 := (by simpa using hl)
      obtain ⟨t28, l, rfl⟩ := List.exists_cons_of_length_eq_add_one (n := 22) hl; replace hl : l.length = 22 := (by simpa using hl)
      obtain ⟨t29, l, rfl⟩ := List.exists_cons_of_length_eq_add_one (n := 21) hl; replace hl : l.length = 21 := (by simpa using hl)
      obtain ⟨t30, l, rfl⟩ := List.exists_cons_of_length_eq_add_one (n := 20) hl; replace hl : l.length = 20 := (by simpa using hl)
      obtain ⟨t31, l, rfl⟩ := List.exists_cons_of_length_eq_add_one (n := 19) hl; replace hl : l.length = 19 := (by simpa using hl)
      obtain ⟨t32, l, rfl⟩ := List.exists_cons_of_length_eq_add_one (n := 18) hl; replace hl : l.length = 18 := (by simpa using hl)
      obtain ⟨t33, l, rfl⟩ := List.exists_cons_of_length_eq_add_one (n := 17) hl; replace hl : l.length = 17 := (by simpa using hl)
      obtain ⟨t34, l, rfl⟩ := List.exists_cons_of_length_eq_add_one (n := 16) hl; replace hl : l.length = 16 := (by simpa using hl)
      obtain ⟨t35, l, rfl⟩ := List.exists_cons_of_length_eq_add_one (n := 15) hl; replace hl : l.length = 15 := (by simpa using hl)
      obtain ⟨t36, l, rfl⟩ := List.exists_cons_of_length_eq_add_one (n := 14) hl; replace hl : l.length = 14 := (by simpa using hl)
      obtain ⟨t37, l, rfl⟩ := List.exists_cons_of_length_eq_add_one (n := 13) hl; replace hl : l.length = 13 := (by simpa using hl)
      obtain ⟨t38, l, rfl⟩ := List.exists_cons_of_length_eq_add_one (n := 12) hl; replace hl : l.length = 12 := (by simpa using hl)
      obtain ⟨t39, l, rfl⟩ := List.exists_cons_of_length_eq_add_one (n := 11) hl; replace hl : l.length = 11 := (by simpa using hl)
      obtain ⟨t40, l, rfl⟩ := List.exists_cons_of_length_eq_add_one (n := 10) hl; replace hl : l.length = 10 := (by simpa using hl)
      obtain ⟨t41, l, rfl⟩ := List.exists_cons_of_length_eq_add_one (n := 9) hl; replace hl : l.length = 9 := (by simpa using hl)
      obtain ⟨t42, l, rfl⟩ := List.exists_cons_of_length_eq_add_one (n := 8) hl; replace hl : l.length = 8 := (by simpa using hl)
      obtain ⟨t43, l, rfl⟩ := List.exists_cons_of_length_eq_add_one (n := 7) hl; replace hl : l.length = 7 := (by simpa using hl)
      obtain ⟨t44, l, rfl⟩ := List.exists_cons_of_length_eq_add_one (n := 6) hl; replace hl : l.length = 6 := (by simpa using hl)
      obtain ⟨t45, l, rfl⟩ := List.exists_cons_of_length_eq_add_one (n := 5) hl; replace hl : l.length = 5 := (by simpa using hl)
      obtain ⟨t46, l, rfl⟩ := List.exists_cons_of_length_eq_add_one (n := 4) hl; replace hl : l.length = 4 := (by simpa using hl)
      obtain ⟨t47, l, rfl⟩ := List.exists_cons_of_length_eq_add_one (n := 3) hl; replace hl : l.length = 3 := (by simpa using hl)
      obtain ⟨t48, l, rfl⟩ := List.exists_cons_of_length_eq_add_one (n := 2) hl; replace hl : l.length = 2 := (by simpa using hl)
      obtain ⟨t49, l, rfl⟩ := List.exists_cons_of_length_eq_add_one (n := 1) hl; replace hl : l.length = 1 := (by simpa using hl)
      obtain ⟨t50, l, rfl⟩ := List.exists_cons_of_length_eq_add_one (n := 0) hl; replace hl : l.length = 0 := (by simpa using hl)
      obtain rfl := List.eq_nil_of_length_eq_zero hl
      clear hl
      obtain rfl : t2 = .pointer (some ⟨w.heap.size, 0, none⟩) := by simpa using k2
      clear h hall hwc hgc hgq hown8 k2 x0 r0' r1' hq0 hA8 BX HINS
      obtain ⟨n1, hn1⟩ : ∃ n1, n1 = n + 1 := ⟨_, rfl⟩
      rw [← hn1] at HOW HR2 hcap1
      have HN1 := Lib.hid hn1
      have hn65 : n1 ≤ 65 := by omega
      clear hn1
      have hmc : min n1 most ≤ c8 := by omega
      have BY : Hid (∀ W : World, W = wc.drew → W.cell? ⟨w.heap.size, 0, none⟩ = some (.pointer (some ⟨R, 0, none⟩)) ∧ W.cell? ⟨R, 0, none⟩ = some (.slice A8 n1 c8) ∧ W.cell? ⟨R, 1, none⟩ = some (.int .i64 most) ∧ W.frozen? ⟨R, 0, none⟩ = false) := Lib.hid fun W hW => by
        have a1 : W.heap[w.heap.size]? = some (.cells #[.pointer (some ⟨R, 0, none⟩)] 134 (0, 0)) := by rw [hW]; exact HBX2.out
        have a2 : W.heap[R]? = some (.cells #[.slice A8 n1 c8, .int .i64 most, fv] 113 (0, 0)) := by rw [hW]; exact HR2.out
        exact ⟨by simp [World.cell?, a1], by simp [World.cell?, a2], by simp [World.cell?, a2], by simp [World.frozen?, a2]⟩
      go_wp2_with fail
      refine wp_region_inv (AeI wc R w.heap.size n1 most c8 A8 (.slice A8 n1 c8)) (by kernel_rfl) (by kernel_rfl) ?g0 ?gstep ?gend
      case g0 =>
        have hno : ∀ j, ¬ dn (Array.replicate 19 false) j := by
          intro j; unfold dn; by_cases hj : j < 19 <;> simp [Array.getD, hj]
        exact ⟨_, rfl, { siz := rfl, wor := fun _ => rfl, k2 := rfl, p0 := fun hj => absurd hj (hno _), p1 := fun hj => absurd hj (hno _), p2 := fun hj => absurd hj (hno _), p3 := fun hj => absurd hj (hno _), p4 := fun hj => absurd hj (hno _), p5 := fun hj => absurd hj (hno _), p6 := fun hj => absurd hj (hno _), p7 := fun hj => absurd hj (hno _), p8 := fun hj => absurd hj (hno _), p9 := fun hj => absurd hj (hno _), p10 := fun hj => absurd hj (hno _), p11 := fun hj => absurd hj (hno _), p12 := fun hj => absurd hj (hno _), p13 := fun hj => absurd hj (hno _), p14 := fun hj => absurd hj (hno _), p15 := fun hj => absurd hj (hno _), p16 := fun hj => absurd hj (hno _), p17 := fun hj => absurd hj (hno _), l18 := fun hj => absurd hj (hno _), p18 := fun hj => absurd hj (hno _), l2 := fun hj => absurd hj (hno _), l3 := fun hj => absurd hj (hno _), l4 := fun hj => absurd hj (hno _), l6 := fun hj => absurd hj (hno _), l7 := fun hj => absurd hj (hno _), l8 := fun hj => absurd hj (hno _), l9 := fun hj => absurd hj (hno _), l11 := fun hj => absurd hj (hno _), l12 := fun hj => absurd hj (hno _), l13 := fun hj => absurd hj (hno _), l14 := fun hj => absurd hj (hno _), l15 := fun hj => absurd hj (hno _), l16 := fun hj => absurd hj (hno _), l17 := fun hj => absurd hj (hno _) }⟩
      case gend =>
        intro d a wd hd hI hall
        obtain ⟨t, rfl, h⟩ := hI
        have hwc := h.p18 (dn_all (n := 19) hd hall (by decide))
        have hRw : R < wc.heap.size := (Array.getElem?_eq_some_iff.1 HR2.out).1
        have hgd : wc.grownBy wd (some R) := by rw [hwc]; exact grown_after (grown_of_below (Below.refl _ _).drew) (grown_setCell _ _ _ _) (.inl rfl)
        have HFR : Hid (wd.heap[R]? = some (.cells #[.slice A8 (min n1 most) c8, .int .i64 most, fv] 113 (0, 0))) := Lib.hid (by
          have e : wc.drew.heap[R]? = some (.cells #[.slice A8 n1 c8, .int .i64 most, fv] 113 (0, 0)) := HR2.out
          rw [hwc]; simp [World.setCell, Array.getElem?_modify, e])
        have HOF : Hid (wd.ownsRow base 114 1 (.slice A8 (min n1 most) c8) (min n1 most) (ys.take (min n1 most))) := Lib.hid (own_take (HOW.out.kept hgd (.inr (fun e => HA8.out (by cases A8 <;> exact e)))) (Nat.min_le_left _ _))
        have HGD := Lib.hid (grown_after HGC.out hgd (.inl rfl))
        have hl : t.toList.length = 51 := h.siz
        obtain ⟨l⟩ := t
        simp only [] at hl
        obtain ⟨t0, l, rfl⟩ := List.exists_cons_of_length_eq_add_one (n := 50) hl; replace hl : l.length = 50 := (by simpa using hl)
        obtain ⟨t1, l, rfl⟩ := List.exists_cons_of_length_eq_add_one (n := 49) hl; replace hl : l.length = 49 := (by simpa using hl)
        obtain ⟨t2, l, rfl⟩ := List.exists_cons_of_length_eq_add_one (n := 48) hl; replace hl : l.length = 48 := (by simpa using hl)
        obtain ⟨t3, l, rfl⟩ := List.exists_cons_of_length_eq_add_one (n := 47) hl; replace hl : l.length = 47 := (by simpa using hl)
        obtain ⟨t4, l, rfl⟩ := List.exists_cons_of_length_eq_add_one (n := 46) hl; replace hl : l.length = 46 := (by simpa using hl)
        obtain ⟨t5, l, rfl⟩ := List.exists_cons_of_length_eq_add_one (n := 45) hl; replace hl : l.length = 45 := (by simpa using hl)
        obtain ⟨t6, l, rfl⟩ := List.exists_cons_of_length_eq_add_one (n := 44) hl; replace hl : l.length = 44 := (by simpa using hl)
        obtain ⟨t7, l, rfl⟩ := List.exists_cons_of_length_eq_add_one (n := 43) hl; replace hl : l.length = 43 := (by simpa using hl)
        obtain ⟨t8, l, rfl⟩ := List.exists_cons_of_length_eq_add_one (n := 42) hl; replace hl : l.length = 42 := (by simpa using hl)
        obtain ⟨t9, l, rfl⟩ := List.exists_cons_of_length_eq_add_one (n := 41) hl; replace hl : l.length = 41 := (by simpa using hl)
        obtain ⟨t10, l, rfl⟩ := List.exists_cons_of_length_eq_add_one (n := 40) hl; replace hl : l.length = 40 := (by simpa using hl)
        obtain ⟨t11, l, rfl⟩ := List.exists_cons_of_length_eq_add_one (n := 39) hl; replace hl : l.length = 39 := (by simpa using hl)
        obtain ⟨t12, l, rfl⟩ := List.exists_cons_of_length_eq_add_one (n := 38) hl; replace hl : l.length = 38 := (by simpa using hl)
        obtain ⟨t13, l, rfl⟩ := List.exists_cons_of_length_eq_add_one (n := 37) hl; replace hl : l.length = 37 := (by simpa using hl)
        obtain ⟨t14, l, rfl⟩ := List.exists_cons_of_length_eq_add_one (n := 36) hl; replace hl : l.length = 36 := (by simpa using hl)
        obtain ⟨t15, l, rfl⟩ := List.exists_cons_of_length_eq_add_one (n := 35) hl; replace hl : l.length = 35 := (by simpa using hl)
        obtain ⟨t16, l, rfl⟩ := List.exists_cons_of_length_eq_add_one (n := 34) hl; replace hl : l.length = 34 := (by simpa using hl)
        obtain ⟨t17, l, rfl⟩ := List.exists_cons_of_length_eq_add_one (n := 33) hl; replace hl : l.length = 33 := (by simpa using hl)
        obtain ⟨t18, l, rfl⟩ := List.exists_cons_of_length_eq_add_one (n := 32) hl; replace hl : l.length = 32 := (by simpa using hl)
        obtain ⟨t19, l, rfl⟩ := List.exists_cons_of_length_eq_add_one (n := 31) hl; replace hl : l.length = 31 := (by simpa using hl)
        obtain ⟨t20, l, rfl⟩ := List.exists_cons_of_length_eq_add_one (n := 30) hl; replace hl : l.length = 30 := (by simpa using hl)
        obtain ⟨t21, l, rfl⟩ := List.exists_cons_of_length_eq_add_one (n := 29) hl; replace hl : l.length = 29 := (by simpa using hl)
        obtain ⟨t22, l, rfl⟩ := List.exists_cons_of_length_eq_add_one (n := 28) hl; replace hl : l.length = 28 := (by simpa using hl)
        obtain ⟨t23, l, rfl⟩ := List.exists_cons_of_length_eq_add_one (n := 27) hl; replace hl : l.length = 27 := (by simpa using hl)
        obtain ⟨t24, l, rfl⟩ := List.exists_cons_of_length_eq_add_one (n := 26) hl; replace hl : l.length = 26 := (by simpa using hl)
        obtain ⟨t25, l, rfl⟩ := List.exists_cons_of_length_eq_add_one (n := 25) hl; replace hl : l.length = 25 := (by simpa using hl)
        obtain ⟨t26, l, rfl⟩ := List.exists_cons_of_length_eq_add_one (n := 24) hl; replace hl : l.length = 24 := (by simpa using hl)
        obtain ⟨t27, l, rfl⟩ := List.exists_cons_of_length_eq_add_one (n := 23) hl; replace hl : l.length = 23 := (by simpa using hl)
        obtain ⟨t28, l, rfl⟩ := List.exists_cons_of_length_eq_add_one (n := 22) hl; replace hl : l.length = 22 := (by simpa using hl)
        obtain ⟨t29, l, rfl⟩ := List.exists_cons_of_length_eq_add_one (n := 21) hl; replace hl : l.length = 21 := (by simpa using hl)
        obtain ⟨t30, l, rfl⟩ := List.exists_cons_of_length_eq_add_one (n := 20) hl; replace hl : l.length = 20 := (by simpa using hl)
        obtain ⟨t31, l, rfl⟩ := List.exists_cons_of_length_eq_add_one (n := 19) hl; replace hl : l.length = 19 := (by simpa using hl)
        obtain ⟨t32, l, rfl⟩ := List.exists_cons_of_length_eq_add_one (n := 18) hl; replace hl : l.length = 18 := (by simpa using hl)
        obtain ⟨t33, l, rfl⟩ := List.exists_cons_of_length_eq_add_one (n := 17) hl; replace hl : l.length = 17 := (by simpa using hl)
        obtain ⟨t34, l, rfl⟩ := List.exists_cons_of_length_eq_add_one (n := 16) hl; replace hl : l.length = 16 := (by simpa using hl)
        obtain ⟨t35, l, rfl⟩ := List.exists_cons_of_length_eq_add_one (n := 15) hl; replace hl : l.length = 15 := (by simpa using hl)
        obtain ⟨t36, l, rfl⟩ := List.exists_cons_of_length_eq_add_one (n := 14) hl; replace hl : l.length = 14 := (by simpa using hl)
        obtain ⟨t37, l, rfl⟩ := List.exists_cons_of_length_eq_add_one (n := 13) hl; replace hl : l.length = 13 := (by simpa using hl)
        obtain ⟨t38, l, rfl⟩ := List.exists_cons_of_length_eq_add_one (n := 12) hl; replace hl : l.length = 12 := (by simpa using hl)
        obtain ⟨t39, l, rfl⟩ := List.exists_cons_of_length_eq_add_one (n := 11) hl; replace hl : l.length = 11 := (by simpa using hl)
        obtain ⟨t40, l, rfl⟩ := List.exists_cons_of_length_eq_add_one (n := 10) hl; replace hl : l.length = 10 := (by simpa using hl)
        obtain ⟨t41, l, rfl⟩ := List.exists_cons_of_length_eq_add_one (n := 9) hl; replace hl : l.length = 9 := (by simpa using hl)
        obtain ⟨t42, l, rfl⟩ := List.exists_cons_of_length_eq_add_one (n := 8) hl; replace hl : l.length = 8 := (by simpa using hl)
        obtain ⟨t43, l, rfl⟩ := List.exists_cons_of_length_eq_add_one (n := 7) hl; replace hl : l.length = 7 := (by simpa using hl)
        obtain ⟨t44, l, rfl⟩ := List.exists_cons_of_length_eq_add_one (n := 6) hl; replace hl : l.length = 6 := (by simpa using hl)
        obtain ⟨t45, l, rfl⟩ := List.exists_cons_of_length_eq_add_one (n := 5) hl; replace hl : l.length = 5 := (by simpa using hl)
        obtain ⟨t46, l, rfl⟩ := List.exists_cons_of_length_eq_add_one (n := 4) hl; replace hl : l.length = 4 := (by simpa using hl)
        obtain ⟨t47, l, rfl⟩ := List.exists_cons_of_length_eq_add_one (n := 3) hl; replace hl : l.length = 3 := (by simpa using hl)
        obtain ⟨t48, l, rfl⟩ := List.exists_cons_of_length_eq_add_one (n := 2) hl; replace hl : l.length = 2 := (by simpa using hl)
        obtain ⟨t49, l, rfl⟩ := List.exists_cons_of_length_eq_add_one (n := 1) hl; replace hl : l.length = 1 := (by simpa using hl)
        obtain ⟨t50, l, rfl⟩ := List.exists_cons_of_length_eq_add_one (n := 0) hl; replace hl : l.length = 0 := (by simpa using hl)
        obtain rfl := List.eq_nil_of_length_eq_zero hl
        clear hl
        clear h hall hwc hgd
        go_wp2_with fail
        go_end0
        refine ⟨rfl, _, HFR.out, ?_, wq, HGQ.out, HGD.out⟩
        rw [if_pos him, ← HN1.out]
        exact ⟨A8, c8, rfl, HOF.out⟩
      case gstep =>
        intro d a wc i hd hI hi
        obtain ⟨hlt', hnd, hpre⟩ := mem_ready hi
        have hd' : d.size = 19 := hd
        have hin : i < 19 := hlt'
        clear hi hd hlt'
        obtain ⟨t, rfl, h⟩ := hI
        have hcs : i = 0 ∨ i = 1 ∨ i = 2 ∨ i = 3 ∨ i = 4 ∨ i = 5 ∨ i = 6 ∨ i = 7 ∨ i = 8 ∨ i = 9 ∨ i = 10 ∨ i = 11 ∨ i = 12 ∨ i = 13 ∨ i = 14 ∨ i = 15 ∨ i = 16 ∨ i = 17 ∨ i = 18 := by omega
        rcases hcs with rfl | rfl | rfl | rfl | rfl | rfl | rfl | rfl | rfl | rfl | rfl | rfl | rfl | rfl | rfl | rfl | rfl | rfl | rfl
        · have hi : 0 < d.size := by omega
          have hnd' := not_dn hi hnd
          refine wpOp_plain rfl rfl ?_
          have h18 : ¬ dn d 18 := fun q => hnd' (h.l18 q _ (by decide))
          have q2 := h.k2
          obtain ⟨m0, m1, m2, m3⟩ := BY.out wc (h.wor h18)
          go_simp
          exact ⟨_, rfl, { siz := by simpa using h.siz, wor := fun hk => h.wor (fun q => hk (dn_up q)), k2 := (set_other (by decide)).trans h.k2, p0 := fun _ => set_same (by have := h.siz; omega), p1 := fun hj => (set_other (by decide)).trans (h.p1 (dn_of hi hj (by decide))), p2 := fun hj => (set_other (by decide)).trans (h.p2 (dn_of hi hj (by decide))), p3 := fun hj => (set_other (by decide)).trans (h.p3 (dn_of hi hj (by decide))), p4 := fun hj => (set_other (by decide)).trans (h.p4 (dn_of hi hj (by decide))), p5 := fun hj => (set_other (by decide)).trans (h.p5 (dn_of hi hj (by decide))), p6 := fun hj => (set_other (by decide)).trans (h.p6 (dn_of hi hj (by decide))), p7 := fun hj => (set_other (by decide)).trans (h.p7 (dn_of hi hj (by decide))), p8 := fun hj => (set_other (by decide)).trans (h.p8 (dn_of hi hj (by decide))), p9 := fun hj => (set_other (by decide)).trans (h.p9 (dn_of hi hj (by decide))), p10 := fun hj => (set_other (by decide)).trans (h.p10 (dn_of hi hj (by decide))), p11 := fun hj => (set_other (by decide)).trans (h.p11 (dn_of hi hj (by decide))), p12 := fun hj => (set_other (by decide)).trans (h.p12 (dn_of hi hj (by decide))), p13 := fun hj => (set_other (by decide)).trans (h.p13 (dn_of hi hj (by decide))), p14 := fun hj => (set_other (by decide)).trans (h.p14 (dn_of hi hj (by decide))), p15 := fun hj => (set_other (by decide)).trans (h.p15 (dn_of hi hj (by decide))), p16 := fun hj => (set_other (by decide)).trans (h.p16 (dn_of hi hj (by decide))), p17 := fun hj => (set_other (by decide)).trans (h.p17 (dn_of hi hj (by decide))), l18 := fun hj => absurd (dn_of hi hj (by decide)) h18, p18 := fun hj => absurd (dn_of hi hj (by decide)) h18, l2 := fun hj => dn_up (h.l2 (dn_of hi hj (by decide))), l3 := fun hj => dn_up (h.l3 (dn_of hi hj (by decide))), l4 := fun hj => dn_up (h.l4 (dn_of hi hj (by decide))), l6 := fun hj => dn_up (h.l6 (dn_of hi hj (by decide))), l7 := fun hj => dn_up (h.l7 (dn_of hi hj (by decide))), l8 := fun hj => dn_up (h.l8 (dn_of hi hj (by decide))), l9 := fun hj => dn_up (h.l9 (dn_of hi hj (by decide))), l11 := fun hj => dn_up (h.l11 (dn_of hi hj (by decide))), l12 := fun hj => dn_up (h.l12 (dn_of hi hj (by decide))), l13 := fun hj => dn_up (h.l13 (dn_of hi hj (by decide))), l14 := fun hj => (fun q => ⟨dn_up q.1, dn_up q.2⟩) (h.l14 (dn_of hi hj (by decide))), l15 := fun hj => (fun q => ⟨dn_up q.1, dn_up q.2⟩) (h.l15 (dn_of hi hj (by decide))), l16 := fun hj => absurd (h.l16 (dn_of hi hj (by decide))) hnd', l17 := fun hj => dn_up (h.l17 (dn_of hi hj (by decide))) }⟩
        · have hi : 1 < d.size := by omega
          have hnd' := not_dn hi hnd
          refine wpOp_plain rfl rfl ?_
          have h18 : ¬ dn d 18 := fun q => hnd' (h.l18 q _ (by decide))
          have q2 := h.k2
          obtain ⟨m0, m1, m2, m3⟩ := BY.out wc (h.wor h18)
          go_simp
          exact ⟨_, rfl, { siz := by simpa using h.siz, wor := fun hk => h.wor (fun q => hk (dn_up q)), k2 := (set_other (by decide)).trans h.k2, p0 := fun hj => (set_other (by decide)).trans (h.p0 (dn_of hi hj (by decide))), p1 := fun _ => set_same (by have := h.siz; omega), p2 := fun hj => (set_other (by decide)).trans (h.p2 (dn_of hi hj (by decide))), p3 := fun hj => (set_other (by decide)).trans (h.p3 (dn_of hi hj (by decide))), p4 := fun hj => (set_other (by decide)).trans (h.p4 (dn_of hi hj (by decide))), p5 := fun hj => (set_other (by decide)).trans (h.p5 (dn_of hi hj (by decide))), p6 := fun hj => (set_other (by decide)).trans (h.p6 (dn_of hi hj (by decide))), p7 := fun hj => (set_other (by decide)).trans (h.p7 (dn_of hi hj (by decide))), p8 := fun hj => (set_other (by decide)).trans (h.p8 (dn_of hi hj (by decide))), p9 := fun hj => (set_other (by decide)).trans (h.p9 (dn_of hi hj (by decide))), p10 := fun hj => (set_other (by decide)).trans (h.p10 (dn_of hi hj (by decide))), p11 := fun hj => (set_other (by decide)).trans (h.p11 (dn_of hi hj (by decide))), p12 := fun hj => (set_other (by decide)).trans (h.p12 (dn_of hi hj (by decide))), p13 := fun hj => (set_other (by decide)).trans (h.p13 (dn_of hi hj (by decide))), p14 := fun hj => (set_other (by decide)).trans (h.p14 (dn_of hi hj (by decide))), p15 := fun hj => (set_other (by decide)).trans (h.p15 (dn_of hi hj (by decide))), p16 := fun hj => (set_other (by decide)).trans (h.p16 (dn_of hi hj (by decide))), p17 := fun hj => (set_other (by decide)).trans (h.p17 (dn_of hi hj (by decide))), l18 := fun hj => absurd (dn_of hi hj (by decide)) h18, p18 := fun hj => absurd (dn_of hi hj (by decide)) h18, l2 := fun hj => absurd (h.l2 (dn_of hi hj (by decide))) hnd', l3 := fun hj => dn_up (h.l3 (dn_of hi hj (by decide))), l4 := fun hj => dn_up (h.l4 (dn_of hi hj (by decide))), l6 := fun hj => dn_up (h.l6 (dn_of hi hj (by decide))), l7 := fun hj => dn_up (h.l7 (dn_of hi hj (by decide))), l8 := fun hj => dn_up (h.l8 (dn_of hi hj (by decide))), l9 := fun hj => dn_up (h.l9 (dn_of hi hj (by decide))), l11 := fun hj => dn_up (h.l11 (dn_of hi hj (by decide))), l12 := fun hj => dn_up (h.l12 (dn_of hi hj (by decide))), l13 := fun hj => dn_up (h.l13 (dn_of hi hj (by decide))), l14 := fun hj => (fun q => ⟨dn_up q.1, dn_up q.2⟩) (h.l14 (dn_of hi hj (by decide))), l15 := fun hj => (fun q => ⟨dn_up q.1, dn_up q.2⟩) (h.l15 (dn_of hi hj (by decide))), l16 := fun hj => dn_up (h.l16 (dn_of hi hj (by decide))), l17 := fun hj => dn_up (h.l17 (dn_of hi hj (by decide))) }⟩
        · have hi : 2 < d.size := by omega
          have hnd' := not_dn hi hnd
          refine wpOp_plain rfl rfl ?_
          have h18 : ¬ dn d 18 := fun q => hnd' (h.l18 q _ (by decide))
          have e1 := h.p1 (hpre _ rfl ⟨1, .data⟩ (by simp) rfl)
          go_simp
          exact ⟨_, rfl, { siz := by simpa using h.siz, wor := fun hk => h.wor (fun q => hk (dn_up q)), k2 := (set_other (by decide)).trans h.k2, p0 := fun hj => (set_other (by decide)).trans (h.p0 (dn_of hi hj (by decide))), p1 := fun hj => (set_other (by decide)).trans (h.p1 (dn_of hi hj (by decide))), p2 := fun _ => set_same (by have := h.siz; omega), p3 := fun hj => (set_other (by decide)).trans (h.p3 (dn_of hi hj (by decide))), p4 := fun hj => (set_other (by decide)).trans (h.p4 (dn_of hi hj (by decide))), p5 := fun hj => (set_other (by decide)).trans (h.p5 (dn_of hi hj (by decide))), p6 := fun hj => (set_other (by decide)).trans (h.p6 (dn_of hi hj (by decide))), p7 := fun hj => (set_other (by decide)).trans (h.p7 (dn_of hi hj (by decide))), p8 := fun hj => (set_other (by decide)).trans (h.p8 (dn_of hi hj (by decide))), p9 := fun hj => (set_other (by decide)).trans (h.p9 (dn_of hi hj (by decide))), p10 := fun hj => (set_other (by decide)).trans (h.p10 (dn_of hi hj (by decide))), p11 := fun hj => (set_other (by decide)).trans (h.p11 (dn_of hi hj (by decide))), p12 := fun hj => (set_other (by decide)).trans (h.p12 (dn_of hi hj (by decide))), p13 := fun hj => (set_other (by decide)).trans (h.p13 (dn_of hi hj (by decide))), p14 := fun hj => (set_other (by decide)).trans (h.p14 (dn_of hi hj (by decide))), p15 := fun hj => (set_other (by decide)).trans (h.p15 (dn_of hi hj (by decide))), p16 := fun hj => (set_other (by decide)).trans (h.p16 (dn_of hi hj (by decide))), p17 := fun hj => (set_other (by decide)).trans (h.p17 (dn_of hi hj (by decide))), l18 := fun hj => absurd (dn_of hi hj (by decide)) h18, p18 := fun hj => absurd (dn_of hi hj (by decide)) h18, l2 := fun _ => dn_up (hpre _ rfl ⟨1, .data⟩ (by simp) rfl), l3 := fun hj => absurd (h.l3 (dn_of hi hj (by decide))) hnd', l4 := fun hj => dn_up (h.l4 (dn_of hi hj (by decide))), l6 := fun hj => dn_up (h.l6 (dn_of hi hj (by decide))), l7 := fun hj => dn_up (h.l7 (dn_of hi hj (by decide))), l8 := fun hj => dn_up (h.l8 (dn_of hi hj (by decide))), l9 := fun hj => dn_up (h.l9 (dn_of hi hj (by decide))), l11 := fun hj => dn_up (h.l11 (dn_of hi hj (by decide))), l12 := fun hj => dn_up (h.l12 (dn_of hi hj (by decide))), l13 := fun hj => dn_up (h.l13 (dn_of hi hj (by decide))), l14 := fun hj => (fun q => ⟨dn_up q.1, dn_up q.2⟩) (h.l14 (dn_of hi hj (by decide))), l15 := fun hj => (fun q => ⟨dn_up q.1, dn_up q.2⟩) (h.l15 (dn_of hi hj (by decide))), l16 := fun hj => dn_up (h.l16 (dn_of hi hj (by decide))), l17 := fun hj => dn_up (h.l17 (dn_of hi hj (by decide))) }⟩
        · have hi : 3 < d.size := by omega
          have hnd' := not_dn hi hnd
          refine wpOp_plain rfl rfl ?_
          have h18 : ¬ dn d 18 := fun q => hnd' (h.l18 q _ (by decide))
          have e2 := h.p2 (hpre _ rfl ⟨2, .data⟩ (by simp) rfl)
          go_simp
          exact ⟨_, rfl, { siz := by simpa using h.siz, wor := fun hk => h.wor (fun q => hk (dn_up q)), k2 := (set_other (by decide)).trans h.k2, p0 := fun hj => (set_other (by decide)).trans (h.p0 (dn_of hi hj (by decide))), p1 := fun hj => (set_other (by decide)).trans (h.p1 (dn_of hi hj (by decide))), p2 := fun hj => (set_other (by decide)).trans (h.p2 (dn_of hi hj (by decide))), p3 := fun _ => set_same (by have := h.siz; omega), p4 := fun hj => (set_other (by decide)).trans (h.p4 (dn_of hi hj (by decide))), p5 := fun hj => (set_other (by decide)).trans (h.p5 (dn_of hi hj (by decide))), p6 := fun hj => (set_other (by decide)).trans (h.p6 (dn_of hi hj (by decide))), p7 := fun hj => (set_other (by decide)).trans (h.p7 (dn_of hi hj (by decide))), p8 := fun hj => (set_other (by decide)).trans (h.p8 (dn_of hi hj (by decide))), p9 := fun hj => (set_other (by decide)).trans (h.p9 (dn_of hi hj (by decide))), p10 := fun hj => (set_other (by decide)).trans (h.p10 (dn_of hi hj (by decide))), p11 := fun hj => (set_other (by decide)).trans (h.p11 (dn_of hi hj (by decide))), p12 := fun hj => (set_other (by decide)).trans (h.p12 (dn_of hi hj (by decide))), p13 := fun hj => (set_other (by decide)).trans (h.p13 (dn_of hi hj (by decide))), p14 := fun hj => (set_other (by decide)).trans (h.p14 (dn_of hi hj (by decide))), p15 := fun hj => (set_other (by decide)).trans (h.p15 (dn_of hi hj (by decide))), p16 := fun hj => (set_other (by decide)).trans (h.p16 (dn_of hi hj (by decide))), p17 := fun hj => (set_other (by decide)).trans (h.p17 (dn_of hi hj (by decide))), l18 := fun hj => absurd (dn_of hi hj (by decide)) h18, p18 := fun hj => absurd (dn_of hi hj (by decide)) h18, l2 := fun hj => dn_up (h.l2 (dn_of hi hj (by decide))), l3 := fun _ => dn_up (hpre _ rfl ⟨2, .data⟩ (by simp) rfl), l4 := fun hj => absurd (h.l4 (dn_of hi hj (by decide))) hnd', l6 := fun hj => dn_up (h.l6 (dn_of hi hj (by decide))), l7 := fun hj => dn_up (h.l7 (dn_of hi hj (by decide))), l8 := fun hj => dn_up (h.l8 (dn_of hi hj (by decide))), l9 := fun hj => dn_up (h.l9 (dn_of hi hj (by decide))), l11 := fun hj => dn_up (h.l11 (dn_of hi hj (by decide))), l12 := fun hj => dn_up (h.l12 (dn_of hi hj (by decide))), l13 := fun hj => dn_up (h.l13 (dn_of hi hj (by decide))), l14 := fun hj => (fun q => ⟨dn_up q.1, dn_up q.2⟩) (h.l14 (dn_of hi hj (by decide))), l15 := fun hj => (fun q => ⟨dn_up q.1, dn_up q.2⟩) (h.l15 (dn_of hi hj (by decide))), l16 := fun hj => dn_up (h.l16 (dn_of hi hj (by decide))), l17 := fun hj => dn_up (h.l17 (dn_of hi hj (by decide))) }⟩
        · have hi : 4 < d.size := by omega
          have hnd' := not_dn hi hnd
          refine wpOp_plain rfl rfl ?_
          have h18 : ¬ dn d 18 := fun q => hnd' (h.l18 q _ (by decide))
          have e3 := h.p3 (hpre _ rfl ⟨3, .data⟩ (by simp) rfl)
          obtain ⟨m0, m1, m2, m3⟩ := BY.out wc (h.wor h18)
          go_simp
          exact ⟨_, rfl, { siz := by simpa using h.siz, wor := fun hk => h.wor (fun q => hk (dn_up q)), k2 := (set_other (by decide)).trans h.k2, p0 := fun hj => (set_other (by decide)).trans (h.p0 (dn_of hi hj (by decide))), p1 := fun hj => (set_other (by decide)).trans (h.p1 (dn_of hi hj (by decide))), p2 := fun hj => (set_other (by decide)).trans (h.p2 (dn_of hi hj (by decide))), p3 := fun hj => (set_other (by decide)).trans (h.p3 (dn_of hi hj (by decide))), p4 := fun _ => set_same (by have := h.siz; omega), p5 := fun hj => (set_other (by decide)).trans (h.p5 (dn_of hi hj (by decide))), p6 := fun hj => (set_other (by decide)).trans (h.p6 (dn_of hi hj (by decide))), p7 := fun hj => (set_other (by decide)).trans (h.p7 (dn_of hi hj (by decide))), p8 := fun hj => (set_other (by decide)).trans (h.p8 (dn_of hi hj (by decide))), p9 := fun hj => (set_other (by decide)).trans (h.p9 (dn_of hi hj (by decide))), p10 := fun hj => (set_other (by decide)).trans (h.p10 (dn_of hi hj (by decide))), p11 := fun hj => (set_other (by decide)).trans (h.p11 (dn_of hi hj (by decide))), p12 := fun hj => (set_other (by decide)).trans (h.p12 (dn_of hi hj (by decide))), p13 := fun hj => (set_other (by decide)).trans (h.p13 (dn_of hi hj (by decide))), p14 := fun hj => (set_other (by decide)).trans (h.p14 (dn_of hi hj (by decide))), p15 := fun hj => (set_other (by decide)).trans (h.p15 (dn_of hi hj (by decide))), p16 := fun hj => (set_other (by decide)).trans (h.p16 (dn_of hi hj (by decide))), p17 := fun hj => (set_other (by decide)).trans (h.p17 (dn_of hi hj (by decide))), l18 := fun hj => absurd (dn_of hi hj (by decide)) h18, p18 := fun hj => absurd (dn_of hi hj (by decide)) h18, l2 := fun hj => dn_up (h.l2 (dn_of hi hj (by decide))), l3 := fun hj => dn_up (h.l3 (dn_of hi hj (by decide))), l4 := fun _ => dn_up (hpre _ rfl ⟨3, .data⟩ (by simp) rfl), l6 := fun hj => dn_up (h.l6 (dn_of hi hj (by decide))), l7 := fun hj => dn_up (h.l7 (dn_of hi hj (by decide))), l8 := fun hj => dn_up (h.l8 (dn_of hi hj (by decide))), l9 := fun hj => dn_up (h.l9 (dn_of hi hj (by decide))), l11 := fun hj => dn_up (h.l11 (dn_of hi hj (by decide))), l12 := fun hj => dn_up (h.l12 (dn_of hi hj (by decide))), l13 := fun hj => dn_up (h.l13 (dn_of hi hj (by decide))), l14 := fun hj => (fun q => ⟨dn_up q.1, dn_up q.2⟩) (h.l14 (dn_of hi hj (by decide))), l15 := fun hj => absurd (h.l15 (dn_of hi hj (by decide))).1 hnd', l16 := fun hj => dn_up (h.l16 (dn_of hi hj (by decide))), l17 := fun hj => dn_up (h.l17 (dn_of hi hj (by decide))) }⟩
        · have hi : 5 < d.size := by omega
          have hnd' := not_dn hi hnd
          refine wpOp_plain rfl rfl ?_
          have h18 : ¬ dn d 18 := fun q => hnd' (h.l18 q _ (by decide))
          have q2 := h.k2
          obtain ⟨m0, m1, m2, m3⟩ := BY.out wc (h.wor h18)
          go_simp
          exact ⟨_, rfl, { siz := by simpa using h.siz, wor := fun hk => h.wor (fun q => hk (dn_up q)), k2 := (set_other (by decide)).trans h.k2, p0 := fun hj => (set_other (by decide)).trans (h.p0 (dn_of hi hj (by decide))), p1 := fun hj => (set_other (by decide)).trans (h.p1 (dn_of hi hj (by decide))), p2 := fun hj => (set_other (by decide)).trans (h.p2 (dn_of hi hj (by decide))), p3 := fun hj => (set_other (by decide)).trans (h.p3 (dn_of hi hj (by decide))), p4 := fun hj => (set_other (by decide)).trans (h.p4 (dn_of hi hj (by decide))), p5 := fun _ => set_same (by have := h.siz; omega), p6 := fun hj => (set_other (by decide)).trans (h.p6 (dn_of hi hj (by decide))), p7 := fun hj => (set_other (by decide)).trans (h.p7 (dn_of hi hj (by decide))), p8 := fun hj => (set_other (by decide)).trans (h.p8 (dn_of hi hj (by decide))), p9 := fun hj => (set_other (by decide)).trans (h.p9 (dn_of hi hj (by decide))), p10 := fun hj => (set_other (by decide)).trans (h.p10 (dn_of hi hj (by decide))), p11 := fun hj => (set_other (by decide)).trans (h.p11 (dn_of hi hj (by decide))), p12 := fun hj => (set_other (by decide)).trans (h.p12 (dn_of hi hj (by decide))), p13 := fun hj => (set_other (by decide)).trans (h.p13 (dn_of hi hj (by decide))), p14 := fun hj => (set_other (by decide)).trans (h.p14 (dn_of hi hj (by decide))), p15 := fun hj => (set_other (by decide)).trans (h.p15 (dn_of hi hj (by decide))), p16 := fun hj => (set_other (by decide)).trans (h.p16 (dn_of hi hj (by decide))), p17 := fun hj => (set_other (by decide)).trans (h.p17 (dn_of hi hj (by decide))), l18 := fun hj => absurd (dn_of hi hj (by decide)) h18, p18 := fun hj => absurd (dn_of hi hj (by decide)) h18, l2 := fun hj => dn_up (h.l2 (dn_of hi hj (by decide))), l3 := fun hj => dn_up (h.l3 (dn_of hi hj (by decide))), l4 := fun hj => dn_up (h.l4 (dn_of hi hj (by decide))), l6 := fun hj => absurd (h.l6 (dn_of hi hj (by decide))) hnd', l7 := fun hj => dn_up (h.l7 (dn_of hi hj (by decide))), l8 := fun hj => dn_up (h.l8 (dn_of hi hj (by decide))), l9 := fun hj => dn_up (h.l9 (dn_of hi hj (by decide))), l11 := fun hj => dn_up (h.l11 (dn_of hi hj (by decide))), l12 := fun hj => dn_up (h.l12 (dn_of hi hj (by decide))), l13 := fun hj => dn_up (h.l13 (dn_of hi hj (by decide))), l14 := fun hj => (fun q => ⟨dn_up q.1, dn_up q.2⟩) (h.l14 (dn_of hi hj (by decide))), l15 := fun hj => (fun q => ⟨dn_up q.1, dn_up q.2⟩) (h.l15 (dn_of hi hj (by decide))), l16 := fun hj => dn_up (h.l16 (dn_of hi hj (by decide))), l17 := fun hj => dn_up (h.l17 (dn_of hi hj (by decide))) }⟩
        · have hi : 6 < d.size := by omega
          have hnd' := not_dn hi hnd
          refine wpOp_plain rfl rfl ?_
          have h18 : ¬ dn d 18 := fun q => hnd' (h.l18 q _ (by decide))
          have e5 := h.p5 (hpre _ rfl ⟨5, .data⟩ (by simp) rfl)
          go_simp
          exact ⟨_, rfl, { siz := by simpa using h.siz, wor := fun hk => h.wor (fun q => hk (dn_up q)), k2 := (set_other (by decide)).trans h.k2, p0 := fun hj => (set_other (by decide)).trans (h.p0 (dn_of hi hj (by decide))), p1 := fun hj => (set_other (by decide)).trans (h.p1 (dn_of hi hj (by decide))), p2 := fun hj => (set_other (by decide)).trans (h.p2 (dn_of hi hj (by decide))), p3 := fun hj => (set_other (by decide)).trans (h.p3 (dn_of hi hj (by decide))), p4 := fun hj => (set_other (by decide)).trans (h.p4 (dn_of hi hj (by decide))), p5 := fun hj => (set_other (by decide)).trans (h.p5 (dn_of hi hj (by decide))), p6 := fun _ => set_same (by have := h.siz; omega), p7 := fun hj => (set_other (by decide)).trans (h.p7 (dn_of hi hj (by decide))), p8 := fun hj => (set_other (by decide)).trans (h.p8 (dn_of hi hj (by decide))), p9 := fun hj => (set_other (by decide)).trans (h.p9 (dn_of hi hj (by decide))), p10 := fun hj => (set_other (by decide)).trans (h.p10 (dn_of hi hj (by decide))), p11 := fun hj => (set_other (by decide)).trans (h.p11 (dn_of hi hj (by decide))), p12 := fun hj => (set_other (by decide)).trans (h.p12 (dn_of hi hj (by decide))), p13 := fun hj => (set_other (by decide)).trans (h.p13 (dn_of hi hj (by decide))), p14 := fun hj => (set_other (by decide)).trans (h.p14 (dn_of hi hj (by decide))), p15 := fun hj => (set_other (by decide)).trans (h.p15 (dn_of hi hj (by decide))), p16 := fun hj => (set_other (by decide)).trans (h.p16 (dn_of hi hj (by decide))), p17 := fun hj => (set_other (by decide)).trans (h.p17 (dn_of hi hj (by decide))), l18 := fun hj => absurd (dn_of hi hj (by decide)) h18, p18 := fun hj => absurd (dn_of hi hj (by decide)) h18, l2 := fun hj => dn_up (h.l2 (dn_of hi hj (by decide))), l3 := fun hj => dn_up (h.l3 (dn_of hi hj (by decide))), l4 := fun hj => dn_up (h.l4 (dn_of hi hj (by decide))), l6 := fun _ => dn_up (hpre _ rfl ⟨5, .data⟩ (by simp) rfl), l7 := fun hj => absurd (h.l7 (dn_of hi hj (by decide))) hnd', l8 := fun hj => dn_up (h.l8 (dn_of hi hj (by decide))), l9 := fun hj => dn_up (h.l9 (dn_of hi hj (by decide))), l11 := fun hj => dn_up (h.l11 (dn_of hi hj (by decide))), l12 := fun hj => dn_up (h.l12 (dn_of hi hj (by decide))), l13 := fun hj => dn_up (h.l13 (dn_of hi hj (by decide))), l14 := fun hj => (fun q => ⟨dn_up q.1, dn_up q.2⟩) (h.l14 (dn_of hi hj (by decide))), l15 := fun hj => (fun q => ⟨dn_up q.1, dn_up q.2⟩) (h.l15 (dn_of hi hj (by decide))), l16 := fun hj => dn_up (h.l16 (dn_of hi hj (by decide))), l17 := fun hj => dn_up (h.l17 (dn_of hi hj (by decide))) }⟩
        · have hi : 7 < d.size := by omega
          have hnd' := not_dn hi hnd
          refine wpOp_plain rfl rfl ?_
          have h18 : ¬ dn d 18 := fun q => hnd' (h.l18 q _ (by decide))
          have e6 := h.p6 (hpre _ rfl ⟨6, .data⟩ (by simp) rfl)
          go_simp
          exact ⟨_, rfl, { siz := by simpa using h.siz, wor := fun hk => h.wor (fun q => hk (dn_up q)), k2 := (set_other (by decide)).trans h.k2, p0 := fun hj => (set_other (by decide)).trans (h.p0 (dn_of hi hj (by decide))), p1 := fun hj => (set_other (by decide)).trans (h.p1 (dn_of hi hj (by decide))), p2 := fun hj => (set_other (by decide)).trans (h.p2 (dn_of hi hj (by decide))), p3 := fun hj => (set_other (by decide)).trans (h.p3 (dn_of hi hj (by decide))), p4 := fun hj => (set_other (by decide)).trans (h.p4 (dn_of hi hj (by decide))), p5 := fun hj => (set_other (by decide)).trans (h.p5 (dn_of hi hj (by decide))), p6 := fun hj => (set_other (by decide)).trans (h.p6 (dn_of hi hj (by decide))), p7 := fun _ => set_same (by have := h.siz; omega), p8 := fun hj => (set_other (by decide)).trans (h.p8 (dn_of hi hj (by decide))), p9 := fun hj => (set_other (by decide)).trans (h.p9 (dn_of hi hj (by decide))), p10 := fun hj => (set_other (by decide)).trans (h.p10 (dn_of hi hj (by decide))), p11 := fun hj => (set_other (by decide)).trans (h.p11 (dn_of hi hj (by decide))), p12 := fun hj => (set_other (by decide)).trans (h.p12 (dn_of hi hj (by decide))), p13 := fun hj => (set_other (by decide)).trans (h.p13 (dn_of hi hj (by decide))), p14 := fun hj => (set_other (by decide)).trans (h.p14 (dn_of hi hj (by decide))), p15 := fun hj => (set_other (by decide)).trans (h.p15 (dn_of hi hj (by decide))), p16 := fun hj => (set_other (by decide)).trans (h.p16 (dn_of hi hj (by decide))), p17 := fun hj => (set_other (by decide)).trans (h.p17 (dn_of hi hj (by decide))), l18 := fun hj => absurd (dn_of hi hj (by decide)) h18, p18 := fun hj => absurd (dn_of hi hj (by decide)) h18, l2 := fun hj => dn_up (h.l2 (dn_of hi hj (by decide))), l3 := fun hj => dn_up (h.l3 (dn_of hi hj (by decide))), l4 := fun hj => dn_up (h.l4 (dn_of hi hj (by decide))), l6 := fun hj => dn_up (h.l6 (dn_of hi hj (by decide))), l7 := fun _ => dn_up (hpre _ rfl ⟨6, .data⟩ (by simp) rfl), l8 := fun hj => absurd (h.l8 (dn_of hi hj (by decide))) hnd', l9 := fun hj => dn_up (h.l9 (dn_of hi hj (by decide))), l11 := fun hj => dn_up (h.l11 (dn_of hi hj (by decide))), l12 := fun hj => dn_up (h.l12 (dn_of hi hj (by decide))), l13 := fun hj => dn_up (h.l13 (dn_of hi hj (by decide))), l14 := fun hj => (fun q => ⟨dn_up q.1, dn_up q.2⟩) (h.l14 (dn_of hi hj (by decide))), l15 := fun hj => (fun q => ⟨dn_up q.1, dn_up q.2⟩) (h.l15 (dn_of hi hj (by decide))), l16 := fun hj => dn_up (h.l16 (dn_of hi hj (by decide))), l17 := fun hj => dn_up (h.l17 (dn_of hi hj (by decide))) }⟩
        · have hi : 8 < d.size := by omega
          have hnd' := not_dn hi hnd
          refine wpOp_plain rfl rfl ?_
          have h18 : ¬ dn d 18 := fun q => hnd' (h.l18 q _ (by decide))
          have e7 := h.p7 (hpre _ rfl ⟨7, .data⟩ (by simp) rfl)
          obtain ⟨m0, m1, m2, m3⟩ := BY.out wc (h.wor h18)
          go_simp
          exact ⟨_, rfl, { siz := by simpa using h.siz, wor := fun hk => h.wor (fun q => hk (dn_up q)), k2 := (set_other (by decide)).trans h.k2, p0 := fun hj => (set_other (by decide)).trans (h.p0 (dn_of hi hj (by decide))), p1 := fun hj => (set_other (by decide)).trans (h.p1 (dn_of hi hj (by decide))), p2 := fun hj => (set_other (by decide)).trans (h.p2 (dn_of hi hj (by decide))), p3 := fun hj => (set_other (by decide)).trans (h.p3 (dn_of hi hj (by decide))), p4 := fun hj => (set_other (by decide)).trans (h.p4 (dn_of hi hj (by decide))), p5 := fun hj => (set_other (by decide)).trans (h.p5 (dn_of hi hj (by decide))), p6 := fun hj => (set_other (by decide)).trans (h.p6 (dn_of hi hj (by decide))), p7 := fun hj => (set_other (by decide)).trans (h.p7 (dn_of hi hj (by decide))), p8 := fun _ => set_same (by have := h.siz; omega), p9 := fun hj => (set_other (by decide)).trans (h.p9 (dn_of hi hj (by decide))), p10 := fun hj => (set_other (by decide)).trans (h.p10 (dn_of hi hj (by decide))), p11 := fun hj => (set_other (by decide)).trans (h.p11 (dn_of hi hj (by decide))), p12 := fun hj => (set_other (by decide)).trans (h.p12 (dn_of hi hj (by decide))), p13 := fun hj => (set_other (by decide)).trans (h.p13 (dn_of hi hj (by decide))), p14 := fun hj => (set_other (by decide)).trans (h.p14 (dn_of hi hj (by decide))), p15 := fun hj => (set_other (by decide)).trans (h.p15 (dn_of hi hj (by decide))), p16 := fun hj => (set_other (by decide)).trans (h.p16 (dn_of hi hj (by decide))), p17 := fun hj => (set_other (by decide)).trans (h.p17 (dn_of hi hj (by decide))), l18 := fun hj => absurd (dn_of hi hj (by decide)) h18, p18 := fun hj => absurd (dn_of hi hj (by decide)) h18, l2 := fun hj => dn_up (h.l2 (dn_of hi hj (by decide))), l3 := fun hj => dn_up (h.l3 (dn_of hi hj (by decide))), l4 := fun hj => dn_up (h.l4 (dn_of hi hj (by decide))), l6 := fun hj => dn_up (h.l6 (dn_of hi hj (by decide))), l7 := fun hj => dn_up (h.l7 (dn_of hi hj (by decide))), l8 := fun _ => dn_up (hpre _ rfl ⟨7, .data⟩ (by simp) rfl), l9 := fun hj => absurd (h.l9 (dn_of hi hj (by decide))) hnd', l11 := fun hj => dn_up (h.l11 (dn_of hi hj (by decide))), l12 := fun hj => dn_up (h.l12 (dn_of hi hj (by decide))), l13 := fun hj => dn_up (h.l13 (dn_of hi hj (by decide))), l14 := fun hj => (fun q => ⟨dn_up q.1, dn_up q.2⟩) (h.l14 (dn_of hi hj (by decide))), l15 := fun hj => (fun q => ⟨dn_up q.1, dn_up q.2⟩) (h.l15 (dn_of hi hj (by decide))), l16 := fun hj => dn_up (h.l16 (dn_of hi hj (by decide))), l17 := fun hj => dn_up (h.l17 (dn_of hi hj (by decide))) }⟩
        · have hi : 9 < d.size := by omega
          have hnd' := not_dn hi hnd
          refine wpOp_plain rfl rfl ?_
          have h18 : ¬ dn d 18 := fun q => hnd' (h.l18 q _ (by decide))
          have e8 := h.p8 (hpre _ rfl ⟨8, .data⟩ (by simp) rfl)
          go_simp
          exact ⟨_, rfl, { siz := by simpa using h.siz, wor := fun hk => h.wor (fun q => hk (dn_up q)), k2 := (set_other (by decide)).trans h.k2, p0 := fun hj => (set_other (by decide)).trans (h.p0 (dn_of hi hj (by decide))), p1 := fun hj => (set_other (by decide)).trans (h.p1 (dn_of hi hj (by decide))), p2 := fun hj => (set_other (by decide)).trans (h.p2 (dn_of hi hj (by decide))), p3 := fun hj => (set_other (by decide)).trans (h.p3 (dn_of hi hj (by decide))), p4 := fun hj => (set_other (by decide)).trans (h.p4 (dn_of hi hj (by decide))), p5 := fun hj => (set_other (by decide)).trans (h.p5 (dn_of hi hj (by decide))), p6 := fun hj => (set_other (by decide)).trans (h.p6 (dn_of hi hj (by decide))), p7 := fun hj => (set_other (by decide)).trans (h.p7 (dn_of hi hj (by decide))), p8 := fun hj => (set_other (by decide)).trans (h.p8 (dn_of hi hj (by decide))), p9 := fun _ => set_same (by have := h.siz; omega), p10 := fun hj => (set_other (by decide)).trans (h.p10 (dn_of hi hj (by decide))), p11 := fun hj => (set_other (by decide)).trans (h.p11 (dn_of hi hj (by decide))), p12 := fun hj => (set_other (by decide)).trans (h.p12 (dn_of hi hj (by decide))), p13 := fun hj => (set_other (by decide)).trans (h.p13 (dn_of hi hj (by decide))), p14 := fun hj => (set_other (by decide)).trans (h.p14 (dn_of hi hj (by decide))), p15 := fun hj => (set_other (by decide)).trans (h.p15 (dn_of hi hj (by decide))), p16 := fun hj => (set_other (by decide)).trans (h.p16 (dn_of hi hj (by decide))), p17 := fun hj => (set_other (by decide)).trans (h.p17 (dn_of hi hj (by decide))), l18 := fun hj => absurd (dn_of hi hj (by decide)) h18, p18 := fun hj => absurd (dn_of hi hj (by decide)) h18, l2 := fun hj => dn_up (h.l2 (dn_of hi hj (by decide))), l3 := fun hj => dn_up (h.l3 (dn_of hi hj (by decide))), l4 := fun hj => dn_up (h.l4 (dn_of hi hj (by decide))), l6 := fun hj => dn_up (h.l6 (dn_of hi hj (by decide))), l7 := fun hj => dn_up (h.l7 (dn_of hi hj (by decide))), l8 := fun hj => dn_up (h.l8 (dn_of hi hj (by decide))), l9 := fun _ => dn_up (hpre _ rfl ⟨8, .data⟩ (by simp) rfl), l11 := fun hj => dn_up (h.l11 (dn_of hi hj (by decide))), l12 := fun hj => dn_up (h.l12 (dn_of hi hj (by decide))), l13 := fun hj => dn_up (h.l13 (dn_of hi hj (by decide))), l14 := fun hj => absurd (h.l14 (dn_of hi hj (by decide))).1 hnd', l15 := fun hj => (fun q => ⟨dn_up q.1, dn_up q.2⟩) (h.l15 (dn_of hi hj (by decide))), l16 := fun hj => dn_up (h.l16 (dn_of hi hj (by decide))), l17 := fun hj => dn_up (h.l17 (dn_of hi hj (by decide))) }⟩
        · have hi : 10 < d.size := by omega
          have hnd' := not_dn hi hnd
          refine wpOp_plain rfl rfl ?_
          have h18 : ¬ dn d 18 := fun q => hnd' (h.l18 q _ (by decide))
          have q2 := h.k2
          obtain ⟨m0, m1, m2, m3⟩ := BY.out wc (h.wor h18)
          go_simp
          exact ⟨_, rfl, { siz := by simpa using h.siz, wor := fun hk => h.wor (fun q => hk (dn_up q)), k2 := (set_other (by decide)).trans h.k2, p0 := fun hj => (set_other (by decide)).trans (h.p0 (dn_of hi hj (by decide))), p1 := fun hj => (set_other (by decide)).trans (h.p1 (dn_of hi hj (by decide))), p2 := fun hj => (set_other (by decide)).trans (h.p2 (dn_of hi hj (by decide))), p3 := fun hj => (set_other (by decide)).trans (h.p3 (dn_of hi hj (by decide))), p4 := fun hj => (set_other (by decide)).trans (h.p4 (dn_of hi hj (by decide))), p5 := fun hj => (set_other (by decide)).trans (h.p5 (dn_of hi hj (by decide))), p6 := fun hj => (set_other (by decide)).trans (h.p6 (dn_of hi hj (by decide))), p7 := fun hj => (set_other (by decide)).trans (h.p7 (dn_of hi hj (by decide))), p8 := fun hj => (set_other (by decide)).trans (h.p8 (dn_of hi hj (by decide))), p9 := fun hj => (set_other (by decide)).trans (h.p9 (dn_of hi hj (by decide))), p10 := fun _ => set_same (by have := h.siz; omega), p11 := fun hj => (set_other (by decide)).trans (h.p11 (dn_of hi hj (by decide))), p12 := fun hj => (set_other (by decide)).trans (h.p12 (dn_of hi hj (by decide))), p13 := fun hj => (set_other (by decide)).trans (h.p13 (dn_of hi hj (by decide))), p14 := fun hj => (set_other (by decide)).trans (h.p14 (dn_of hi hj (by decide))), p15 := fun hj => (set_other (by decide)).trans (h.p15 (dn_of hi hj (by decide))), p16 := fun hj => (set_other (by decide)).trans (h.p16 (dn_of hi hj (by decide))), p17 := fun hj => (set_other (by decide)).trans (h.p17 (dn_of hi hj (by decide))), l18 := fun hj => absurd (dn_of hi hj (by decide)) h18, p18 := fun hj => absurd (dn_of hi hj (by decide)) h18, l2 := fun hj => dn_up (h.l2 (dn_of hi hj (by decide))), l3 := fun hj => dn_up (h.l3 (dn_of hi hj (by decide))), l4 := fun hj => dn_up (h.l4 (dn_of hi hj (by decide))), l6 := fun hj => dn_up (h.l6 (dn_of hi hj (by decide))), l7 := fun hj => dn_up (h.l7 (dn_of hi hj (by decide))), l8 := fun hj => dn_up (h.l8 (dn_of hi hj (by decide))), l9 := fun hj => dn_up (h.l9 (dn_of hi hj (by decide))), l11 := fun hj => absurd (h.l11 (dn_of hi hj (by decide))) hnd', l12 := fun hj => dn_up (h.l12 (dn_of hi hj (by decide))), l13 := fun hj => dn_up (h.l13 (dn_of hi hj (by decide))), l14 := fun hj => (fun q => ⟨dn_up q.1, dn_up q.2⟩) (h.l14 (dn_of hi hj (by decide))), l15 := fun hj => (fun q => ⟨dn_up q.1, dn_up q.2⟩) (h.l15 (dn_of hi hj (by decide))), l16 := fun hj => dn_up (h.l16 (dn_of hi hj (by decide))), l17 := fun hj => dn_up (h.l17 (dn_of hi hj (by decide))) }⟩
        · have hi : 11 < d.size := by omega
          have hnd' := not_dn hi hnd
          refine wpOp_plain rfl rfl ?_
          have h18 : ¬ dn d 18 := fun q => hnd' (h.l18 q _ (by decide))
          have e10 := h.p10 (hpre _ rfl ⟨10, .data⟩ (by simp) rfl)
          go_simp
          exact ⟨_, rfl, { siz := by simpa using h.siz, wor := fun hk => h.wor (fun q => hk (dn_up q)), k2 := (set_other (by decide)).trans h.k2, p0 := fun hj => (set_other (by decide)).trans (h.p0 (dn_of hi hj (by decide))), p1 := fun hj => (set_other (by decide)).trans (h.p1 (dn_of hi hj (by decide))), p2 := fun hj => (set_other (by decide)).trans (h.p2 (dn_of hi hj (by decide))), p3 := fun hj => (set_other (by decide)).trans (h.p3 (dn_of hi hj (by decide))), p4 := fun hj => (set_other (by decide)).trans (h.p4 (dn_of hi hj (by decide))), p5 := fun hj => (set_other (by decide)).trans (h.p5 (dn_of hi hj (by decide))), p6 := fun hj => (set_other (by decide)).trans (h.p6 (dn_of hi hj (by decide))), p7 := fun hj => (set_other (by decide)).trans (h.p7 (dn_of hi hj (by decide))), p8 := fun hj => (set_other (by decide)).trans (h.p8 (dn_of hi hj (by decide))), p9 := fun hj => (set_other (by decide)).trans (h.p9 (dn_of hi hj (by decide))), p10 := fun hj => (set_other (by decide)).trans (h.p10 (dn_of hi hj (by decide))), p11 := fun _ => set_same (by have := h.siz; omega), p12 := fun hj => (set_other (by decide)).trans (h.p12 (dn_of hi hj (by decide))), p13 := fun hj => (set_other (by decide)).trans (h.p13 (dn_of hi hj (by decide))), p14 := fun hj => (set_other (by decide)).trans (h.p14 (dn_of hi hj (by decide))), p15 := fun hj => (set_other (by decide)).trans (h.p15 (dn_of hi hj (by decide))), p16 := fun hj => (set_other (by decide)).trans (h.p16 (dn_of hi hj (by decide))), p17 := fun hj => (set_other (by decide)).trans (h.p17 (dn_of hi hj (by decide))), l18 := fun hj => absurd (dn_of hi hj (by decide)) h18, p18 := fun hj => absurd (dn_of hi hj (by decide)) h18, l2 := fun hj => dn_up (h.l2 (dn_of hi hj (by decide))), l3 := fun hj => dn_up (h.l3 (dn_of hi hj (by decide))), l4 := fun hj => dn_up (h.l4 (dn_of hi hj (by decide))), l6 := fun hj => dn_up (h.l6 (dn_of hi hj (by decide))), l7 := fun hj => dn_up (h.l7 (dn_of hi hj (by decide))), l8 := fun hj => dn_up (h.l8 (dn_of hi hj (by decide))), l9 := fun hj => dn_up (h.l9 (dn_of hi hj (by decide))), l11 := fun _ => dn_up (hpre _ rfl ⟨10, .data⟩ (by simp) rfl), l12 := fun hj => absurd (h.l12 (dn_of hi hj (by decide))) hnd', l13 := fun hj => dn_up (h.l13 (dn_of hi hj (by decide))), l14 := fun hj => (fun q => ⟨dn_up q.1, dn_up q.2⟩) (h.l14 (dn_of hi hj (by decide))), l15 := fun hj => (fun q => ⟨dn_up q.1, dn_up q.2⟩) (h.l15 (dn_of hi hj (by decide))), l16 := fun hj => dn_up (h.l16 (dn_of hi hj (by decide))), l17 := fun hj => dn_up (h.l17 (dn_of hi hj (by decide))) }⟩
        · have hi : 12 < d.size := by omega
          have hnd' := not_dn hi hnd
          refine wpOp_plain rfl rfl ?_
          have h18 : ¬ dn d 18 := fun q => hnd' (h.l18 q _ (by decide))
          have e11 := h.p11 (hpre _ rfl ⟨11, .data⟩ (by simp) rfl)
          go_simp
          exact ⟨_, rfl, { siz := by simpa using h.siz, wor := fun hk => h.wor (fun q => hk (dn_up q)), k2 := (set_other (by decide)).trans h.k2, p0 := fun hj => (set_other (by decide)).trans (h.p0 (dn_of hi hj (by decide))), p1 := fun hj => (set_other (by decide)).trans (h.p1 (dn_of hi hj (by decide))), p2 := fun hj => (set_other (by decide)).trans (h.p2 (dn_of hi hj (by decide))), p3 := fun hj => (set_other (by decide)).trans (h.p3 (dn_of hi hj (by decide))), p4 := fun hj => (set_other (by decide)).trans (h.p4 (dn_of hi hj (by decide))), p5 := fun hj => (set_other (by decide)).trans (h.p5 (dn_of hi hj (by decide))), p6 := fun hj => (set_other (by decide)).trans (h.p6 (dn_of hi hj (by decide))), p7 := fun hj => (set_other (by decide)).trans (h.p7 (dn_of hi hj (by decide))), p8 := fun hj => (set_other (by decide)).trans (h.p8 (dn_of hi hj (by decide))), p9 := fun hj => (set_other (by decide)).trans (h.p9 (dn_of hi hj (by decide))), p10 := fun hj => (set_other (by decide)).trans (h.p10 (dn_of hi hj (by decide))), p11 := fun hj => (set_other (by decide)).trans (h.p11 (dn_of hi hj (by decide))), p12 := fun _ => set_same (by have := h.siz; omega), p13 := fun hj => (set_other (by decide)).trans (h.p13 (dn_of hi hj (by decide))), p14 := fun hj => (set_other (by decide)).trans (h.p14 (dn_of hi hj (by decide))), p15 := fun hj => (set_other (by decide)).trans (h.p15 (dn_of hi hj (by decide))), p16 := fun hj => (set_other (by decide)).trans (h.p16 (dn_of hi hj (by decide))), p17 := fun hj => (set_other (by decide)).trans (h.p17 (dn_of hi hj (by decide))), l18 := fun hj => absurd (dn_of hi hj (by decide)) h18, p18 := fun hj => absurd (dn_of hi hj (by decide)) h18, l2 := fun hj => dn_up (h.l2 (dn_of hi hj (by decide))), l3 := fun hj => dn_up (h.l3 (dn_of hi hj (by decide))), l4 := fun hj => dn_up (h.l4 (dn_of hi hj (by decide))), l6 := fun hj => dn_up (h.l6 (dn_of hi hj (by decide))), l7 := fun hj => dn_up (h.l7 (dn_of hi hj (by decide))), l8 := fun hj => dn_up (h.l8 (dn_of hi hj (by decide))), l9 := fun hj => dn_up (h.l9 (dn_of hi hj (by decide))), l11 := fun hj => dn_up (h.l11 (dn_of hi hj (by decide))), l12 := fun _ => dn_up (hpre _ rfl ⟨11, .data⟩ (by simp) rfl), l13 := fun hj => absurd (h.l13 (dn_of hi hj (by decide))) hnd', l14 := fun hj => (fun q => ⟨dn_up q.1, dn_up q.2⟩) (h.l14 (dn_of hi hj (by decide))), l15 := fun hj => (fun q => ⟨dn_up q.1, dn_up q.2⟩) (h.l15 (dn_of hi hj (by decide))), l16 := fun hj => dn_up (h.l16 (dn_of hi hj (by decide))), l17 := fun hj => dn_up (h.l17 (dn_of hi hj (by decide))) }⟩
        · have hi : 13 < d.size := by omega
          have hnd' := not_dn hi hnd
          refine wpOp_plain rfl rfl ?_
          have h18 : ¬ dn d 18 := fun q => hnd' (h.l18 q _ (by decide))
          have e12 := h.p12 (hpre _ rfl ⟨12, .data⟩ (by simp) rfl)
          obtain ⟨m0, m1, m2, m3⟩ := BY.out wc (h.wor h18)
          go_simp
          exact ⟨_, rfl, { siz := by simpa using h.siz, wor := fun hk => h.wor (fun q => hk (dn_up q)), k2 := (set_other (by decide)).trans h.k2, p0 := fun hj => (set_other (by decide)).trans (h.p0 (dn_of hi hj (by decide))), p1 := fun hj => (set_other (by decide)).trans (h.p1 (dn_of hi hj (by decide))), p2 := fun hj => (set_other (by decide)).trans (h.p2 (dn_of hi hj (by decide))), p3 := fun hj => (set_other (by decide)).trans (h.p3 (dn_of hi hj (by decide))), p4 := fun hj => (set_other (by decide)).trans (h.p4 (dn_of hi hj (by decide))), p5 := fun hj => (set_other (by decide)).trans (h.p5 (dn_of hi hj (by decide))), p6 := fun hj => (set_other (by decide)).trans (h.p6 (dn_of hi hj (by decide))), p7 := fun hj => (set_other (by decide)).trans (h.p7 (dn_of hi hj (by decide))), p8 := fun hj => (set_other (by decide)).trans (h.p8 (dn_of hi hj (by decide))), p9 := fun hj => (set_other (by decide)).trans (h.p9 (dn_of hi hj (by decide))), p10 := fun hj => (set_other (by decide)).trans (h.p10 (dn_of hi hj (by decide))), p11 := fun hj => (set_other (by decide)).trans (h.p11 (dn_of hi hj (by decide))), p12 := fun hj => (set_other (by decide)).trans (h.p12 (dn_of hi hj (by decide))), p13 := fun _ => set_same (by have := h.siz; omega), p14 := fun hj => (set_other (by decide)).trans (h.p14 (dn_of hi hj (by decide))), p15 := fun hj => (set_other (by decide)).trans (h.p15 (dn_of hi hj (by decide))), p16 := fun hj => (set_other (by decide)).trans (h.p16 (dn_of hi hj (by decide))), p17 := fun hj => (set_other (by decide)).trans (h.p17 (dn_of hi hj (by decide))), l18 := fun hj => absurd (dn_of hi hj (by decide)) h18, p18 := fun hj => absurd (dn_of hi hj (by decide)) h18, l2 := fun hj => dn_up (h.l2 (dn_of hi hj (by decide))), l3 := fun hj => dn_up (h.l3 (dn_of hi hj (by decide))), l4 := fun hj => dn_up (h.l4 (dn_of hi hj (by decide))), l6 := fun hj => dn_up (h.l6 (dn_of hi hj (by decide))), l7 := fun hj => dn_up (h.l7 (dn_of hi hj (by decide))), l8 := fun hj => dn_up (h.l8 (dn_of hi hj (by decide))), l9 := fun hj => dn_up (h.l9 (dn_of hi hj (by decide))), l11 := fun hj => dn_up (h.l11 (dn_of hi hj (by decide))), l12 := fun hj => dn_up (h.l12 (dn_of hi hj (by decide))), l13 := fun _ => dn_up (hpre _ rfl ⟨12, .data⟩ (by simp) rfl), l14 := fun hj => absurd (h.l14 (dn_of hi hj (by decide))).2 hnd', l15 := fun hj => (fun q => ⟨dn_up q.1, dn_up q.2⟩) (h.l15 (dn_of hi hj (by decide))), l16 := fun hj => dn_up (h.l16 (dn_of hi hj (by decide))), l17 := fun hj => dn_up (h.l17 (dn_of hi hj (by decide))) }⟩
        · have hi : 14 < d.size := by omega
          have hnd' := not_dn hi hnd
          refine wpOp_plain rfl rfl ?_
          have h18 : ¬ dn d 18 := fun q => hnd' (h.l18 q _ (by decide))
          have e9 := h.p9 (hpre _ rfl ⟨9, .data⟩ (by simp) rfl)
          have e13 := h.p13 (hpre _ rfl ⟨13, .data⟩ (by simp) rfl)
          go_simp
          rw [show min (n1 : Int) (most : Int) = ((min n1 most : Nat) : Int) by omega]
          exact ⟨_, rfl, { siz := by simpa using h.siz, wor := fun hk => h.wor (fun q => hk (dn_up q)), k2 := (set_other (by decide)).trans h.k2, p0 := fun hj => (set_other (by decide)).trans (h.p0 (dn_of hi hj (by decide))), p1 := fun hj => (set_other (by decide)).trans (h.p1 (dn_of hi hj (by decide))), p2 := fun hj => (set_other (by decide)).trans (h.p2 (dn_of hi hj (by decide))), p3 := fun hj => (set_other (by decide)).trans (h.p3 (dn_of hi hj (by decide))), p4 := fun hj => (set_other (by decide)).trans (h.p4 (dn_of hi hj (by decide))), p5 := fun hj => (set_other (by decide)).trans (h.p5 (dn_of hi hj (by decide))), p6 := fun hj => (set_other (by decide)).trans (h.p6 (dn_of hi hj (by decide))), p7 := fun hj => (set_other (by decide)).trans (h.p7 (dn_of hi hj (by decide))), p8 := fun hj => (set_other (by decide)).trans (h.p8 (dn_of hi hj (by decide))), p9 := fun hj => (set_other (by decide)).trans (h.p9 (dn_of hi hj (by decide))), p10 := fun hj => (set_other (by decide)).trans (h.p10 (dn_of hi hj (by decide))), p11 := fun hj => (set_other (by decide)).trans (h.p11 (dn_of hi hj (by decide))), p12 := fun hj => (set_other (by decide)).trans (h.p12 (dn_of hi hj (by decide))), p13 := fun hj => (set_other (by decide)).trans (h.p13 (dn_of hi hj (by decide))), p14 := fun _ => set_same (by have := h.siz; omega), p15 := fun hj => (set_other (by decide)).trans (h.p15 (dn_of hi hj (by decide))), p16 := fun hj => (set_other (by decide)).trans (h.p16 (dn_of hi hj (by decide))), p17 := fun hj => (set_other (by decide)).trans (h.p17 (dn_of hi hj (by decide))), l18 := fun hj => absurd (dn_of hi hj (by decide)) h18, p18 := fun hj => absurd (dn_of hi hj (by decide)) h18, l2 := fun hj => dn_up (h.l2 (dn_of hi hj (by decide))), l3 := fun hj => dn_up (h.l3 (dn_of hi hj (by decide))), l4 := fun hj => dn_up (h.l4 (dn_of hi hj (by decide))), l6 := fun hj => dn_up (h.l6 (dn_of hi hj (by decide))), l7 := fun hj => dn_up (h.l7 (dn_of hi hj (by decide))), l8 := fun hj => dn_up (h.l8 (dn_of hi hj (by decide))), l9 := fun hj => dn_up (h.l9 (dn_of hi hj (by decide))), l11 := fun hj => dn_up (h.l11 (dn_of hi hj (by decide))), l12 := fun hj => dn_up (h.l12 (dn_of hi hj (by decide))), l13 := fun hj => dn_up (h.l13 (dn_of hi hj (by decide))), l14 := fun _ => ⟨dn_up (hpre _ rfl ⟨9, .data⟩ (by simp) rfl), dn_up (hpre _ rfl ⟨13, .data⟩ (by simp) rfl)⟩, l15 := fun hj => absurd (h.l15 (dn_of hi hj (by decide))).2 hnd', l16 := fun hj => dn_up (h.l16 (dn_of hi hj (by decide))), l17 := fun hj => dn_up (h.l17 (dn_of hi hj (by decide))) }⟩
        · have hi : 15 < d.size := by omega
          have hnd' := not_dn hi hnd
          refine wpOp_plain rfl rfl ?_
          have h18 : ¬ dn d 18 := fun q => hnd' (h.l18 q _ (by decide))
          have e4 := h.p4 (hpre _ rfl ⟨4, .data⟩ (by simp) rfl)
          have e14 := h.p14 (hpre _ rfl ⟨14, .data⟩ (by simp) rfl)
          go_simp
          exact ⟨_, rfl, { siz := by simpa using h.siz, wor := fun hk => h.wor (fun q => hk (dn_up q)), k2 := (set_other (by decide)).trans h.k2, p0 := fun hj => (set_other (by decide)).trans (h.p0 (dn_of hi hj (by decide))), p1 := fun hj => (set_other (by decide)).trans (h.p1 (dn_of hi hj (by decide))), p2 := fun hj => (set_other (by decide)).trans (h.p2 (dn_of hi hj (by decide))), p3 := fun hj => (set_other (by decide)).trans (h.p3 (dn_of hi hj (by decide))), p4 := fun hj => (set_other (by decide)).trans (h.p4 (dn_of hi hj (by decide))), p5 := fun hj => (set_other (by decide)).trans (h.p5 (dn_of hi hj (by decide))), p6 := fun hj => (set_other (by decide)).trans (h.p6 (dn_of hi hj (by decide))), p7 := fun hj => (set_other (by decide)).trans (h.p7 (dn_of hi hj (by decide))), p8 := fun hj => (set_other (by decide)).trans (h.p8 (dn_of hi hj (by decide))), p9 := fun hj => (set_other (by decide)).trans (h.p9 (dn_of hi hj (by decide))), p10 := fun hj => (set_other (by decide)).trans (h.p10 (dn_of hi hj (by decide))), p11 := fun hj => (set_other (by decide)).trans (h.p11 (dn_of hi hj (by decide))), p12 := fun hj => (set_other (by decide)).trans (h.p12 (dn_of hi hj (by decide))), p13 := fun hj => (set_other (by decide)).trans (h.p13 (dn_of hi hj (by decide))), p14 := fun hj => (set_other (by decide)).trans (h.p14 (dn_of hi hj (by decide))), p15 := fun _ => set_same (by have := h.siz; omega), p16 := fun hj => (set_other (by decide)).trans (h.p16 (dn_of hi hj (by decide))), p17 := fun hj => (set_other (by decide)).trans (h.p17 (dn_of hi hj (by decide))), l18 := fun hj => absurd (dn_of hi hj (by decide)) h18, p18 := fun hj => absurd (dn_of hi hj (by decide)) h18, l2 := fun hj => dn_up (h.l2 (dn_of hi hj (by decide))), l3 := fun hj => dn_up (h.l3 (dn_of hi hj (by decide))), l4 := fun hj => dn_up (h.l4 (dn_of hi hj (by decide))), l6 := fun hj => dn_up (h.l6 (dn_of hi hj (by decide))), l7 := fun hj => dn_up (h.l7 (dn_of hi hj (by decide))), l8 := fun hj => dn_up (h.l8 (dn_of hi hj (by decide))), l9 := fun hj => dn_up (h.l9 (dn_of hi hj (by decide))), l11 := fun hj => dn_up (h.l11 (dn_of hi hj (by decide))), l12 := fun hj => dn_up (h.l12 (dn_of hi hj (by decide))), l13 := fun hj => dn_up (h.l13 (dn_of hi hj (by decide))), l14 := fun hj => (fun q => ⟨dn_up q.1, dn_up q.2⟩) (h.l14 (dn_of hi hj (by decide))), l15 := fun _ => ⟨dn_up (hpre _ rfl ⟨4, .data⟩ (by simp) rfl), dn_up (hpre _ rfl ⟨14, .data⟩ (by simp) rfl)⟩, l16 := fun hj => dn_up (h.l16 (dn_of hi hj (by decide))), l17 := fun hj => dn_up (h.l17 (dn_of hi hj (by decide))) }⟩
        · have hi : 16 < d.size := by omega
          have hnd' := not_dn hi hnd
          refine wpOp_plain rfl rfl ?_
          have h18 : ¬ dn d 18 := fun q => hnd' (h.l18 q _ (by decide))
          have e0 := h.p0 (hpre _ rfl ⟨0, .data⟩ (by simp) rfl)
          go_simp
          exact ⟨_, rfl, { siz := by simpa using h.siz, wor := fun hk => h.wor (fun q => hk (dn_up q)), k2 := (set_other (by decide)).trans h.k2, p0 := fun hj => (set_other (by decide)).trans (h.p0 (dn_of hi hj (by decide))), p1 := fun hj => (set_other (by decide)).trans (h.p1 (dn_of hi hj (by decide))), p2 := fun hj => (set_other (by decide)).trans (h.p2 (dn_of hi hj (by decide))), p3 := fun hj => (set_other (by decide)).trans (h.p3 (dn_of hi hj (by decide))), p4 := fun hj => (set_other (by decide)).trans (h.p4 (dn_of hi hj (by decide))), p5 := fun hj => (set_other (by decide)).trans (h.p5 (dn_of hi hj (by decide))), p6 := fun hj => (set_other (by decide)).trans (h.p6 (dn_of hi hj (by decide))), p7 := fun hj => (set_other (by decide)).trans (h.p7 (dn_of hi hj (by decide))), p8 := fun hj => (set_other (by decide)).trans (h.p8 (dn_of hi hj (by decide))), p9 := fun hj => (set_other (by decide)).trans (h.p9 (dn_of hi hj (by decide))), p10 := fun hj => (set_other (by decide)).trans (h.p10 (dn_of hi hj (by decide))), p11 := fun hj => (set_other (by decide)).trans (h.p11 (dn_of hi hj (by decide))), p12 := fun hj => (set_other (by decide)).trans (h.p12 (dn_of hi hj (by decide))), p13 := fun hj => (set_other (by decide)).trans (h.p13 (dn_of hi hj (by decide))), p14 := fun hj => (set_other (by decide)).trans (h.p14 (dn_of hi hj (by decide))), p15 := fun hj => (set_other (by decide)).trans (h.p15 (dn_of hi hj (by decide))), p16 := fun _ => set_same (by have := h.siz; omega), p17 := fun hj => (set_other (by decide)).trans (h.p17 (dn_of hi hj (by decide))), l18 := fun hj => absurd (dn_of hi hj (by decide)) h18, p18 := fun hj => absurd (dn_of hi hj (by decide)) h18, l2 := fun hj => dn_up (h.l2 (dn_of hi hj (by decide))), l3 := fun hj => dn_up (h.l3 (dn_of hi hj (by decide))), l4 := fun hj => dn_up (h.l4 (dn_of hi hj (by decide))), l6 := fun hj => dn_up (h.l6 (dn_of hi hj (by decide))), l7 := fun hj => dn_up (h.l7 (dn_of hi hj (by decide))), l8 := fun hj => dn_up (h.l8 (dn_of hi hj (by decide))), l9 := fun hj => dn_up (h.l9 (dn_of hi hj (by decide))), l11 := fun hj => dn_up (h.l11 (dn_of hi hj (by decide))), l12 := fun hj => dn_up (h.l12 (dn_of hi hj (by decide))), l13 := fun hj => dn_up (h.l13 (dn_of hi hj (by decide))), l14 := fun hj => (fun q => ⟨dn_up q.1, dn_up q.2⟩) (h.l14 (dn_of hi hj (by decide))), l15 := fun hj => (fun q => ⟨dn_up q.1, dn_up q.2⟩) (h.l15 (dn_of hi hj (by decide))), l16 := fun _ => dn_up (hpre _ rfl ⟨0, .data⟩ (by simp) rfl), l17 := fun hj => absurd (h.l17 (dn_of hi hj (by decide))) hnd' }⟩
        · have hi : 17 < d.size := by omega
          have hnd' := not_dn hi hnd
          refine wpOp_plain rfl rfl ?_
          have h18 : ¬ dn d 18 := fun q => hnd' (h.l18 q _ (by decide))
          have e16 := h.p16 (hpre _ rfl ⟨16, .data⟩ (by simp) rfl)
          go_simp
          exact ⟨_, rfl, { siz := by simpa using h.siz, wor := fun hk => h.wor (fun q => hk (dn_up q)), k2 := (set_other (by decide)).trans h.k2, p0 := fun hj => (set_other (by decide)).trans (h.p0 (dn_of hi hj (by decide))), p1 := fun hj => (set_other (by decide)).trans (h.p1 (dn_of hi hj (by decide))), p2 := fun hj => (set_other (by decide)).trans (h.p2 (dn_of hi hj (by decide))), p3 := fun hj => (set_other (by decide)).trans (h.p3 (dn_of hi hj (by decide))), p4 := fun hj => (set_other (by decide)).trans (h.p4 (dn_of hi hj (by decide))), p5 := fun hj => (set_other (by decide)).trans (h.p5 (dn_of hi hj (by decide))), p6 := fun hj => (set_other (by decide)).trans (h.p6 (dn_of hi hj (by decide))), p7 := fun hj => (set_other (by decide)).trans (h.p7 (dn_of hi hj (by decide))), p8 := fun hj => (set_other (by decide)).trans (h.p8 (dn_of hi hj (by decide))), p9 := fun hj => (set_other (by decide)).trans (h.p9 (dn_of hi hj (by decide))), p10 := fun hj => (set_other (by decide)).trans (h.p10 (dn_of hi hj (by decide))), p11 := fun hj => (set_other (by decide)).trans (h.p11 (dn_of hi hj (by decide))), p12 := fun hj => (set_other (by decide)).trans (h.p12 (dn_of hi hj (by decide))), p13 := fun hj => (set_other (by decide)).trans (h.p13 (dn_of hi hj (by decide))), p14 := fun hj => (set_other (by decide)).trans (h.p14 (dn_of hi hj (by decide))), p15 := fun hj => (set_other (by decide)).trans (h.p15 (dn_of hi hj (by decide))), p16 := fun hj => (set_other (by decide)).trans (h.p16 (dn_of hi hj (by decide))), p17 := fun _ => set_same (by have := h.siz; omega), l18 := fun hj => absurd (dn_of hi hj (by decide)) h18, p18 := fun hj => absurd (dn_of hi hj (by decide)) h18, l2 := fun hj => dn_up (h.l2 (dn_of hi hj (by decide))), l3 := fun hj => dn_up (h.l3 (dn_of hi hj (by decide))), l4 := fun hj => dn_up (h.l4 (dn_of hi hj (by decide))), l6 := fun hj => dn_up (h.l6 (dn_of hi hj (by decide))), l7 := fun hj => dn_up (h.l7 (dn_of hi hj (by decide))), l8 := fun hj => dn_up (h.l8 (dn_of hi hj (by decide))), l9 := fun hj => dn_up (h.l9 (dn_of hi hj (by decide))), l11 := fun hj => dn_up (h.l11 (dn_of hi hj (by decide))), l12 := fun hj => dn_up (h.l12 (dn_of hi hj (by decide))), l13 := fun hj => dn_up (h.l13 (dn_of hi hj (by decide))), l14 := fun hj => (fun q => ⟨dn_up q.1, dn_up q.2⟩) (h.l14 (dn_of hi hj (by decide))), l15 := fun hj => (fun q => ⟨dn_up q.1, dn_up q.2⟩) (h.l15 (dn_of hi hj (by decide))), l16 := fun hj => dn_up (h.l16 (dn_of hi hj (by decide))), l17 := fun _ => dn_up (hpre _ rfl ⟨16, .data⟩ (by simp) rfl) }⟩
        · have hi : 18 < d.size := by omega
          have hnd' := not_dn hi hnd
          refine wpOp_plain rfl rfl ?_
          have h18 : ¬ dn d 18 := hnd'
          have d15 : dn d 15 := hpre _ rfl ⟨15, .data⟩ (by simp) rfl
          have d17 : dn d 17 := hpre _ rfl ⟨17, .data⟩ (by simp) rfl
          have e15 := h.p15 d15
          have e17 := h.p17 d17
          obtain ⟨m0, m1, m2, m3⟩ := BY.out wc (h.wor h18)
          go_simp
          exact ⟨_, rfl, { siz := h.siz, wor := fun hk => absurd (dn_self hi) hk, k2 := h.k2, p0 := fun hj => h.p0 (dn_of hi hj (by decide)), p1 := fun hj => h.p1 (dn_of hi hj (by decide)), p2 := fun hj => h.p2 (dn_of hi hj (by decide)), p3 := fun hj => h.p3 (dn_of hi hj (by decide)), p4 := fun hj => h.p4 (dn_of hi hj (by decide)), p5 := fun hj => h.p5 (dn_of hi hj (by decide)), p6 := fun hj => h.p6 (dn_of hi hj (by decide)), p7 := fun hj => h.p7 (dn_of hi hj (by decide)), p8 := fun hj => h.p8 (dn_of hi hj (by decide)), p9 := fun hj => h.p9 (dn_of hi hj (by decide)), p10 := fun hj => h.p10 (dn_of hi hj (by decide)), p11 := fun hj => h.p11 (dn_of hi hj (by decide)), p12 := fun hj => h.p12 (dn_of hi hj (by decide)), p13 := fun hj => h.p13 (dn_of hi hj (by decide)), p14 := fun hj => h.p14 (dn_of hi hj (by decide)), p15 := fun hj => h.p15 (dn_of hi hj (by decide)), p16 := fun hj => h.p16 (dn_of hi hj (by decide)), p17 := fun hj => h.p17 (dn_of hi hj (by decide)), l18 := fun _ j hj => dn_up (all18 h.l2 h.l3 h.l4 h.l6 h.l7 h.l8 h.l9 h.l11 h.l12 h.l13 h.l14 h.l15 h.l16 h.l17 d15 d17 j hj), p18 := fun _ => by rw [h.wor h18], l2 := fun hj => dn_up (h.l2 (dn_of hi hj (by decide))), l3 := fun hj => dn_up (h.l3 (dn_of hi hj (by decide))), l4 := fun hj => dn_up (h.l4 (dn_of hi hj (by decide))), l6 := fun hj => dn_up (h.l6 (dn_of hi hj (by decide))), l7 := fun hj => dn_up (h.l7 (dn_of hi hj (by decide))), l8 := fun hj => dn_up (h.l8 (dn_of hi hj (by decide))), l9 := fun hj => dn_up (h.l9 (dn_of hi hj (by decide))), l11 := fun hj => dn_up (h.l11 (dn_of hi hj (by decide))), l12 := fun hj => dn_up (h.l12 (dn_of hi hj (by decide))), l13 := fun hj => dn_up (h.l13 (dn_of hi hj (by decide))), l14 := fun hj => (fun q => ⟨dn_up q.1, dn_up q.2⟩) (h.l14 (dn_of hi hj (by decide))), l15 := fun hj => (fun q => ⟨dn_up q.1, dn_up q.2⟩) (h.l15 (dn_of hi hj (by decide))), l16 := fun hj => dn_up (h.l16 (dn_of hi hj (by decide))), l17 := fun hj => dn_up (h.l17 (dn_of hi hj (by decide))) }⟩
    case hstep =>
      intro d a wc i hd hI hi
      obtain ⟨hlt', hnd, hpre⟩ := mem_ready hi
      have hd' : d.size = 12 := hd
      have hin : i < 12 := hlt'
      clear hi hd hlt'
      obtain ⟨t, rfl, h⟩ := hI
      have hcs : i = 0 ∨ i = 1 ∨ i = 2 ∨ i = 3 ∨ i = 4 ∨ i = 5 ∨ i = 6 ∨ i = 7 ∨ i = 8 ∨ i = 9 ∨ i = 10 ∨ i = 11 := by omega
      rcases hcs with rfl | rfl | rfl | rfl | rfl | rfl | rfl | rfl | rfl | rfl | rfl | rfl
      · have hi : 0 < d.size := by omega
        have hnd' := not_dn hi hnd
        refine wpOp_plain rfl rfl ?_
        have h11 : ¬ dn d 11 := fun q => hnd' (h.l11 q _ (by decide))
        have q2 := h.k2
        obtain ⟨m0, m1, m2⟩ := BX.out wc (h.gro h11)
        go_simp
        exact ⟨_, rfl, { siz := by simpa using h.siz, gro := fun _ => h.gro h11, own := fun hk => h.own (fun q => hk (dn_up q)), k1 := (set_other (by decide)).trans h.k1, k2 := (set_other (by decide)).trans h.k2, k4 := (set_other (by decide)).trans h.k4, p0 := fun _ => set_same (by have := h.siz; omega), p1 := fun hj => (set_other (by decide)).trans (h.p1 (dn_of hi hj (by decide))), p2 := fun hj => (set_other (by decide)).trans (h.p2 (dn_of hi hj (by decide))), p3 := fun hj => (set_other (by decide)).trans (h.p3 (dn_of hi hj (by decide))), p4 := fun hj => (set_other (by decide)).trans (h.p4 (dn_of hi hj (by decide))), p5 := fun hj => (set_other (by decide)).trans (h.p5 (dn_of hi hj (by decide))), p6 := fun hj => (set_other (by decide)).trans (h.p6 (dn_of hi hj (by decide))), p9 := fun hj => (set_other (by decide)).trans (h.p9 (dn_of hi hj (by decide))), p10 := fun hj => (set_other (by decide)).trans (h.p10 (dn_of hi hj (by decide))), p7 := fun hj hk => by obtain ⟨u, e1, e2⟩ := h.p7 (dn_of hi hj (by decide)) (fun q => hk (dn_up q)); exact ⟨u, (set_other (by decide)).trans e1, e2⟩, p8 := fun hj hk => by obtain ⟨A, c, e1, e2⟩ := h.p8 (dn_of hi hj (by decide)) h11; exact ⟨A, c, (set_other (by decide)).trans e1, e2⟩, l11 := fun hj => absurd (dn_of hi hj (by decide)) h11, p11 := fun hj => absurd (dn_of hi hj (by decide)) h11, l2 := fun hj => dn_up (h.l2 (dn_of hi hj (by decide))), l3 := fun hj => dn_up (h.l3 (dn_of hi hj (by decide))), l4 := fun hj => dn_up (h.l4 (dn_of hi hj (by decide))), l7 := fun hj => dn_up (h.l7 (dn_of hi hj (by decide))), l8 := fun hj => (fun q => ⟨dn_up q.1, dn_up q.2.1, dn_up q.2.2⟩) (h.l8 (dn_of hi hj (by decide))), l9 := fun hj => absurd (h.l9 (dn_of hi hj (by decide))) hnd', l10 := fun hj => dn_up (h.l10 (dn_of hi hj (by decide))) }⟩
      · have hi : 1 < d.size := by omega
        have hnd' := not_dn hi hnd
        refine wpOp_plain rfl rfl ?_
        have h11 : ¬ dn d 11 := fun q => hnd' (h.l11 q _ (by decide))
        have q2 := h.k2
        obtain ⟨m0, m1, m2⟩ := BX.out wc (h.gro h11)
        go_simp
        exact ⟨_, rfl, { siz := by simpa using h.siz, gro := fun _ => h.gro h11, own := fun hk => h.own (fun q => hk (dn_up q)), k1 := (set_other (by decide)).trans h.k1, k2 := (set_other (by decide)).trans h.k2, k4 := (set_other (by decide)).trans h.k4, p0 := fun hj => (set_other (by decide)).trans (h.p0 (dn_of hi hj (by decide))), p1 := fun _ => set_same (by have := h.siz; omega), p2 := fun hj => (set_other (by decide)).trans (h.p2 (dn_of hi hj (by decide))), p3 := fun hj => (set_other (by decide)).trans (h.p3 (dn_of hi hj (by decide))), p4 := fun hj => (set_other (by decide)).trans (h.p4 (dn_of hi hj (by decide))), p5 := fun hj => (set_other (by decide)).trans (h.p5 (dn_of hi hj (by decide))), p6 := fun hj => (set_other (by decide)).trans (h.p6 (dn_of hi hj (by decide))), p9 := fun hj => (set_other (by decide)).trans (h.p9 (dn_of hi hj (by decide))), p10 := fun hj => (set_other (by decide)).trans (h.p10 (dn_of hi hj (by decide))), p7 := fun hj hk => by obtain ⟨u, e1, e2⟩ := h.p7 (dn_of hi hj (by decide)) (fun q => hk (dn_up q)); exact ⟨u, (set_other (by decide)).trans e1, e2⟩, p8 := fun hj hk => by obtain ⟨A, c, e1, e2⟩ := h.p8 (dn_of hi hj (by decide)) h11; exact ⟨A, c, (set_other (by decide)).trans e1, e2⟩, l11 := fun hj => absurd (dn_of hi hj (by decide)) h11, p11 := fun hj => absurd (dn_of hi hj (by decide)) h11, l2 := fun hj => absurd (h.l2 (dn_of hi hj (by decide))) hnd', l3 := fun hj => dn_up (h.l3 (dn_of hi hj (by decide))), l4 := fun hj => dn_up (h.l4 (dn_of hi hj (by decide))), l7 := fun hj => dn_up (h.l7 (dn_of hi hj (by decide))), l8 := fun hj => (fun q => ⟨dn_up q.1, dn_up q.2.1, dn_up q.2.2⟩) (h.l8 (dn_of hi hj (by decide))), l9 := fun hj => dn_up (h.l9 (dn_of hi hj (by decide))), l10 := fun hj => dn_up (h.l10 (dn_of hi hj (by decide))) }⟩
      · have hi : 2 < d.size := by omega
        have hnd' := not_dn hi hnd
        refine wpOp_plain rfl rfl ?_
        have h11 : ¬ dn d 11 := fun q => hnd' (h.l11 q _ (by decide))
        have e1 := h.p1 (hpre _ rfl ⟨1, .data⟩ (by simp) rfl)
        go_simp
        exact ⟨_, rfl, { siz := by simpa using h.siz, gro := fun _ => h.gro h11, own := fun hk => h.own (fun q => hk (dn_up q)), k1 := (set_other (by decide)).trans h.k1, k2 := (set_other (by decide)).trans h.k2, k4 := (set_other (by decide)).trans h.k4, p0 := fun hj => (set_other (by decide)).trans (h.p0 (dn_of hi hj (by decide))), p1 := fun hj => (set_other (by decide)).trans (h.p1 (dn_of hi hj (by decide))), p2 := fun _ => set_same (by have := h.siz; omega), p3 := fun hj => (set_other (by decide)).trans (h.p3 (dn_of hi hj (by decide))), p4 := fun hj => (set_other (by decide)).trans (h.p4 (dn_of hi hj (by decide))), p5 := fun hj => (set_other (by decide)).trans (h.p5 (dn_of hi hj (by decide))), p6 := fun hj => (set_other (by decide)).trans (h.p6 (dn_of hi hj (by decide))), p9 := fun hj => (set_other (by decide)).trans (h.p9 (dn_of hi hj (by decide))), p10 := fun hj => (set_other (by decide)).trans (h.p10 (dn_of hi hj (by decide))), p7 := fun hj hk => by obtain ⟨u, e1, e2⟩ := h.p7 (dn_of hi hj (by decide)) (fun q => hk (dn_up q)); exact ⟨u, (set_other (by decide)).trans e1, e2⟩, p8 := fun hj hk => by obtain ⟨A, c, e1, e2⟩ := h.p8 (dn_of hi hj (by decide)) h11; exact ⟨A, c, (set_other (by decide)).trans e1, e2⟩, l11 := fun hj => absurd (dn_of hi hj (by decide)) h11, p11 := fun hj => absurd (dn_of hi hj (by decide)) h11, l2 := fun _ => dn_up (hpre _ rfl ⟨1, .data⟩ (by simp) rfl), l3 := fun hj => absurd (h.l3 (dn_of hi hj (by decide))) hnd', l4 := fun hj => dn_up (h.l4 (dn_of hi hj (by decide))), l7 := fun hj => dn_up (h.l7 (dn_of hi hj (by decide))), l8 := fun hj => (fun q => ⟨dn_up q.1, dn_up q.2.1, dn_up q.2.2⟩) (h.l8 (dn_of hi hj (by decide))), l9 := fun hj => dn_up (h.l9 (dn_of hi hj (by decide))), l10 := fun hj => dn_up (h.l10 (dn_of hi hj (by decide))) }⟩
      · have hi : 3 < d.size := by omega
        have hnd' := not_dn hi hnd
        refine wpOp_plain rfl rfl ?_
        have h11 : ¬ dn d 11 := fun q => hnd' (h.l11 q _ (by decide))
        have e2 := h.p2 (hpre _ rfl ⟨2, .data⟩ (by simp) rfl)
        go_simp
        exact ⟨_, rfl, { siz := by simpa using h.siz, gro := fun _ => h.gro h11, own := fun hk => h.own (fun q => hk (dn_up q)), k1 := (set_other (by decide)).trans h.k1, k2 := (set_other (by decide)).trans h.k2, k4 := (set_other (by decide)).trans h.k4, p0 := fun hj => (set_other (by decide)).trans (h.p0 (dn_of hi hj (by decide))), p1 := fun hj => (set_other (by decide)).trans (h.p1 (dn_of hi hj (by decide))), p2 := fun hj => (set_other (by decide)).trans (h.p2 (dn_of hi hj (by decide))), p3 := fun _ => set_same (by have := h.siz; omega), p4 := fun hj => (set_other (by decide)).trans (h.p4 (dn_of hi hj (by decide))), p5 := fun hj => (set_other (by decide)).trans (h.p5 (dn_of hi hj (by decide))), p6 := fun hj => (set_other (by decide)).trans (h.p6 (dn_of hi hj (by decide))), p9 := fun hj => (set_other (by decide)).trans (h.p9 (dn_of hi hj (by decide))), p10 := fun hj => (set_other (by decide)).trans (h.p10 (dn_of hi hj (by decide))), p7 := fun hj hk => by obtain ⟨u, e1, e2⟩ := h.p7 (dn_of hi hj (by decide)) (fun q => hk (dn_up q)); exact ⟨u, (set_other (by decide)).trans e1, e2⟩, p8 := fun hj hk => by obtain ⟨A, c, e1, e2⟩ := h.p8 (dn_of hi hj (by decide)) h11; exact ⟨A, c, (set_other (by decide)).trans e1, e2⟩, l11 := fun hj => absurd (dn_of hi hj (by decide)) h11, p11 := fun hj => absurd (dn_of hi hj (by decide)) h11, l2 := fun hj => dn_up (h.l2 (dn_of hi hj (by decide))), l3 := fun _ => dn_up (hpre _ rfl ⟨2, .data⟩ (by simp) rfl), l4 := fun hj => absurd (h.l4 (dn_of hi hj (by decide))) hnd', l7 := fun hj => dn_up (h.l7 (dn_of hi hj (by decide))), l8 := fun hj => (fun q => ⟨dn_up q.1, dn_up q.2.1, dn_up q.2.2⟩) (h.l8 (dn_of hi hj (by decide))), l9 := fun hj => dn_up (h.l9 (dn_of hi hj (by decide))), l10 := fun hj => dn_up (h.l10 (dn_of hi hj (by decide))) }⟩
      · have hi : 4 < d.size := by omega
        have hnd' := not_dn hi hnd
        refine wpOp_plain rfl rfl ?_
        have h11 : ¬ dn d 11 := fun q => hnd' (h.l11 q _ (by decide))
        have h8 : ¬ dn d 8 := fun q => hnd' (h.l8 q).1
        have e3 := h.p3 (hpre _ rfl ⟨3, .data⟩ (by simp) rfl)
        obtain ⟨m0, m1, m2⟩ := BX.out wc (h.gro h11)
        go_simp
        exact ⟨_, rfl, { siz := by simpa using h.siz, gro := fun _ => h.gro h11, own := fun hk => h.own (fun q => hk (dn_up q)), k1 := (set_other (by decide)).trans h.k1, k2 := (set_other (by decide)).trans h.k2, k4 := (set_other (by decide)).trans h.k4, p0 := fun hj => (set_other (by decide)).trans (h.p0 (dn_of hi hj (by decide))), p1 := fun hj => (set_other (by decide)).trans (h.p1 (dn_of hi hj (by decide))), p2 := fun hj => (set_other (by decide)).trans (h.p2 (dn_of hi hj (by decide))), p3 := fun hj => (set_other (by decide)).trans (h.p3 (dn_of hi hj (by decide))), p4 := fun _ => set_same (by have := h.siz; omega), p5 := fun hj => (set_other (by decide)).trans (h.p5 (dn_of hi hj (by decide))), p6 := fun hj => (set_other (by decide)).trans (h.p6 (dn_of hi hj (by decide))), p9 := fun hj => (set_other (by decide)).trans (h.p9 (dn_of hi hj (by decide))), p10 := fun hj => (set_other (by decide)).trans (h.p10 (dn_of hi hj (by decide))), p7 := fun hj hk => by obtain ⟨u, e1, e2⟩ := h.p7 (dn_of hi hj (by decide)) (fun q => hk (dn_up q)); exact ⟨u, (set_other (by decide)).trans e1, e2⟩, p8 := fun hj hk => by obtain ⟨A, c, e1, e2⟩ := h.p8 (dn_of hi hj (by decide)) h11; exact ⟨A, c, (set_other (by decide)).trans e1, e2⟩, l11 := fun hj => absurd (dn_of hi hj (by decide)) h11, p11 := fun hj => absurd (dn_of hi hj (by decide)) h11, l2 := fun hj => dn_up (h.l2 (dn_of hi hj (by decide))), l3 := fun hj => dn_up (h.l3 (dn_of hi hj (by decide))), l4 := fun _ => dn_up (hpre _ rfl ⟨3, .data⟩ (by simp) rfl), l7 := fun hj => dn_up (h.l7 (dn_of hi hj (by decide))), l8 := fun hj => absurd (h.l8 (dn_of hi hj (by decide))).1 hnd', l9 := fun hj => dn_up (h.l9 (dn_of hi hj (by decide))), l10 := fun hj => dn_up (h.l10 (dn_of hi hj (by decide))) }⟩
      · have hi : 5 < d.size := by omega
        have hnd' := not_dn hi hnd
        refine wpOp_plain rfl rfl ?_
        have h11 : ¬ dn d 11 := fun q => hnd' (h.l11 q _ (by decide))
        have q4 := h.k4
        go_simp
        exact ⟨_, rfl, { siz := by simpa using h.siz, gro := fun _ => h.gro h11, own := fun hk => h.own (fun q => hk (dn_up q)), k1 := (set_other (by decide)).trans h.k1, k2 := (set_other (by decide)).trans h.k2, k4 := (set_other (by decide)).trans h.k4, p0 := fun hj => (set_other (by decide)).trans (h.p0 (dn_of hi hj (by decide))), p1 := fun hj => (set_other (by decide)).trans (h.p1 (dn_of hi hj (by decide))), p2 := fun hj => (set_other (by decide)).trans (h.p2 (dn_of hi hj (by decide))), p3 := fun hj => (set_other (by decide)).trans (h.p3 (dn_of hi hj (by decide))), p4 := fun hj => (set_other (by decide)).trans (h.p4 (dn_of hi hj (by decide))), p5 := fun _ => set_same (by have := h.siz; omega), p6 := fun hj => (set_other (by decide)).trans (h.p6 (dn_of hi hj (by decide))), p9 := fun hj => (set_other (by decide)).trans (h.p9 (dn_of hi hj (by decide))), p10 := fun hj => (set_other (by decide)).trans (h.p10 (dn_of hi hj (by decide))), p7 := fun hj hk => by obtain ⟨u, e1, e2⟩ := h.p7 (dn_of hi hj (by decide)) (fun q => hk (dn_up q)); exact ⟨u, (set_other (by decide)).trans e1, e2⟩, p8 := fun hj hk => by obtain ⟨A, c, e1, e2⟩ := h.p8 (dn_of hi hj (by decide)) h11; exact ⟨A, c, (set_other (by decide)).trans e1, e2⟩, l11 := fun hj => absurd (dn_of hi hj (by decide)) h11, p11 := fun hj => absurd (dn_of hi hj (by decide)) h11, l2 := fun hj => dn_up (h.l2 (dn_of hi hj (by decide))), l3 := fun hj => dn_up (h.l3 (dn_of hi hj (by decide))), l4 := fun hj => dn_up (h.l4 (dn_of hi hj (by decide))), l7 := fun hj => dn_up (h.l7 (dn_of hi hj (by decide))), l8 := fun hj => absurd (h.l8 (dn_of hi hj (by decide))).2.1 hnd', l9 := fun hj => dn_up (h.l9 (dn_of hi hj (by decide))), l10 := fun hj => dn_up (h.l10 (dn_of hi hj (by decide))) }⟩
      · have hi : 6 < d.size := by omega
        have hnd' := not_dn hi hnd
        refine wpOp_plain rfl rfl ?_
        have h11 : ¬ dn d 11 := fun q => hnd' (h.l11 q _ (by decide))
        have q1 := h.k1
        go_simp
        exact ⟨_, rfl, { siz := by simpa using h.siz, gro := fun _ => h.gro h11, own := fun hk => h.own (fun q => hk (dn_up q)), k1 := (set_other (by decide)).trans h.k1, k2 := (set_other (by decide)).trans h.k2, k4 := (set_other (by decide)).trans h.k4, p0 := fun hj => (set_other (by decide)).trans (h.p0 (dn_of hi hj (by decide))), p1 := fun hj => (set_other (by decide)).trans (h.p1 (dn_of hi hj (by decide))), p2 := fun hj => (set_other (by decide)).trans (h.p2 (dn_of hi hj (by decide))), p3 := fun hj => (set_other (by decide)).trans (h.p3 (dn_of hi hj (by decide))), p4 := fun hj => (set_other (by decide)).trans (h.p4 (dn_of hi hj (by decide))), p5 := fun hj => (set_other (by decide)).trans (h.p5 (dn_of hi hj (by decide))), p6 := fun _ => set_same (by have := h.siz; omega), p9 := fun hj => (set_other (by decide)).trans (h.p9 (dn_of hi hj (by decide))), p10 := fun hj => (set_other (by decide)).trans (h.p10 (dn_of hi hj (by decide))), p7 := fun hj hk => by obtain ⟨u, e1, e2⟩ := h.p7 (dn_of hi hj (by decide)) (fun q => hk (dn_up q)); exact ⟨u, (set_other (by decide)).trans e1, e2⟩, p8 := fun hj hk => by obtain ⟨A, c, e1, e2⟩ := h.p8 (dn_of hi hj (by decide)) h11; exact ⟨A, c, (set_other (by decide)).trans e1, e2⟩, l11 := fun hj => absurd (dn_of hi hj (by decide)) h11, p11 := fun hj => absurd (dn_of hi hj (by decide)) h11, l2 := fun hj => dn_up (h.l2 (dn_of hi hj (by decide))), l3 := fun hj => dn_up (h.l3 (dn_of hi hj (by decide))), l4 := fun hj => dn_up (h.l4 (dn_of hi hj (by decide))), l7 := fun hj => absurd (h.l7 (dn_of hi hj (by decide))) hnd', l8 := fun hj => (fun q => ⟨dn_up q.1, dn_up q.2.1, dn_up q.2.2⟩) (h.l8 (dn_of hi hj (by decide))), l9 := fun hj => dn_up (h.l9 (dn_of hi hj (by decide))), l10 := fun hj => dn_up (h.l10 (dn_of hi hj (by decide))) }⟩
      · have hi : 7 < d.size := by omega
        have hnd' := not_dn hi hnd
        refine wpOp_plain rfl rfl ?_
        have h11 : ¬ dn d 11 := fun q => hnd' (h.l11 q _ (by decide))
        have h8 : ¬ dn d 8 := fun q => hnd' (h.l8 q).2.2
        have e6 := h.p6 (hpre _ rfl ⟨6, .data⟩ (by simp) rfl)
        have hb : Below wc.heap.size wc (wc.alloc (.cells #[.pointer p] 114)) := (Below.refl _ _).alloc (Nat.le_refl _) _
        go_simp
        exact ⟨_, rfl, { siz := by simpa using h.siz, gro := fun _ => grown_after (h.gro h11) (grown_of_below hb) (.inl rfl), own := fun hk => (h.own h8).trans (hb.mono (h.own h8).size), k1 := (set_other (by decide)).trans h.k1, k2 := (set_other (by decide)).trans h.k2, k4 := (set_other (by decide)).trans h.k4, p0 := fun hj => (set_other (by decide)).trans (h.p0 (dn_of hi hj (by decide))), p1 := fun hj => (set_other (by decide)).trans (h.p1 (dn_of hi hj (by decide))), p2 := fun hj => (set_other (by decide)).trans (h.p2 (dn_of hi hj (by decide))), p3 := fun hj => (set_other (by decide)).trans (h.p3 (dn_of hi hj (by decide))), p4 := fun hj => (set_other (by decide)).trans (h.p4 (dn_of hi hj (by decide))), p5 := fun hj => (set_other (by decide)).trans (h.p5 (dn_of hi hj (by decide))), p6 := fun hj => (set_other (by decide)).trans (h.p6 (dn_of hi hj (by decide))), p9 := fun hj => (set_other (by decide)).trans (h.p9 (dn_of hi hj (by decide))), p10 := fun hj => (set_other (by decide)).trans (h.p10 (dn_of hi hj (by decide))), p7 := fun _ _ => ⟨_, set_same (by have := h.siz; omega), heap_alloc_new _ _, (h.own h8).size⟩, p8 := fun hj _ => absurd (dn_of hi hj (by decide)) h8, l11 := fun hj => absurd (dn_of hi hj (by decide)) h11, p11 := fun hj => absurd (dn_of hi hj (by decide)) h11, l2 := fun hj => dn_up (h.l2 (dn_of hi hj (by decide))), l3 := fun hj => dn_up (h.l3 (dn_of hi hj (by decide))), l4 := fun hj => dn_up (h.l4 (dn_of hi hj (by decide))), l7 := fun _ => dn_up (hpre _ rfl ⟨6, .data⟩ (by simp) rfl), l8 := fun hj => absurd (h.l8 (dn_of hi hj (by decide))).2.2 hnd', l9 := fun hj => dn_up (h.l9 (dn_of hi hj (by decide))), l10 := fun hj => dn_up (h.l10 (dn_of hi hj (by decide))) }⟩
      · have hi : 8 < d.size := by omega
        have hnd' := not_dn hi hnd
        refine wpOp_plain rfl rfl ?_
        have h11 : ¬ dn d 11 := fun q => hnd' (h.l11 q _ (by decide))
        have h8 : ¬ dn d 8 := hnd'
        have e4 := h.p4 (hpre _ rfl ⟨4, .data⟩ (by simp) rfl)
        have e5 := h.p5 (hpre _ rfl ⟨5, .data⟩ (by simp) rfl)
        obtain ⟨u, e7, hu, hul⟩ := h.p7 (hpre _ rfl ⟨7, .data⟩ (by simp) rfl) h8
        go_simp
        refine (HINS.out wc u (h.own h8) hu hul).mono ?_
        rintro e1 w1 ⟨A8, c8, rfl, hown8, hg8⟩
        exact ⟨_, rfl, { siz := by simpa using h.siz, gro := fun _ => grown_after (h.gro h11) hg8 (.inl rfl), own := fun hk => absurd (dn_self hi) hk, k1 := (set_other (by decide)).trans h.k1, k2 := (set_other (by decide)).trans h.k2, k4 := (set_other (by decide)).trans h.k4, p0 := fun hj => (set_other (by decide)).trans (h.p0 (dn_of hi hj (by decide))), p1 := fun hj => (set_other (by decide)).trans (h.p1 (dn_of hi hj (by decide))), p2 := fun hj => (set_other (by decide)).trans (h.p2 (dn_of hi hj (by decide))), p3 := fun hj => (set_other (by decide)).trans (h.p3 (dn_of hi hj (by decide))), p4 := fun hj => (set_other (by decide)).trans (h.p4 (dn_of hi hj (by decide))), p5 := fun hj => (set_other (by decide)).trans (h.p5 (dn_of hi hj (by decide))), p6 := fun hj => (set_other (by decide)).trans (h.p6 (dn_of hi hj (by decide))), p9 := fun hj => (set_other (by decide)).trans (h.p9 (dn_of hi hj (by decide))), p10 := fun hj => (set_other (by decide)).trans (h.p10 (dn_of hi hj (by decide))), p7 := fun _ hk => absurd (dn_self hi) hk, p8 := fun _ _ => ⟨A8, c8, set_same (by have := h.siz; omega), hown8⟩, l11 := fun hj => absurd (dn_of hi hj (by decide)) h11, p11 := fun hj => absurd (dn_of hi hj (by decide)) h11, l2 := fun hj => dn_up (h.l2 (dn_of hi hj (by decide))), l3 := fun hj => dn_up (h.l3 (dn_of hi hj (by decide))), l4 := fun hj => dn_up (h.l4 (dn_of hi hj (by decide))), l7 := fun hj => dn_up (h.l7 (dn_of hi hj (by decide))), l8 := fun _ => ⟨dn_up (hpre _ rfl ⟨4, .data⟩ (by simp) rfl), dn_up (hpre _ rfl ⟨5, .data⟩ (by simp) rfl), dn_up (hpre _ rfl ⟨7, .data⟩ (by simp) rfl)⟩, l9 := fun hj => dn_up (h.l9 (dn_of hi hj (by decide))), l10 := fun hj => dn_up (h.l10 (dn_of hi hj (by decide))) }⟩
      · have hi : 9 < d.size := by omega
        have hnd' := not_dn hi hnd
        refine wpOp_plain rfl rfl ?_
        have h11 : ¬ dn d 11 := fun q => hnd' (h.l11 q _ (by decide))
        have e0 := h.p0 (hpre _ rfl ⟨0, .data⟩ (by simp) rfl)
        go_simp
        exact ⟨_, rfl, { siz := by simpa using h.siz, gro := fun _ => h.gro h11, own := fun hk => h.own (fun q => hk (dn_up q)), k1 := (set_other (by decide)).trans h.k1, k2 := (set_other (by decide)).trans h.k2, k4 := (set_other (by decide)).trans h.k4, p0 := fun hj => (set_other (by decide)).trans (h.p0 (dn_of hi hj (by decide))), p1 := fun hj => (set_other (by decide)).trans (h.p1 (dn_of hi hj (by decide))), p2 := fun hj => (set_other (by decide)).trans (h.p2 (dn_of hi hj (by decide))), p3 := fun hj => (set_other (by decide)).trans (h.p3 (dn_of hi hj (by decide))), p4 := fun hj => (set_other (by decide)).trans (h.p4 (dn_of hi hj (by decide))), p5 := fun hj => (set_other (by decide)).trans (h.p5 (dn_of hi hj (by decide))), p6 := fun hj => (set_other (by decide)).trans (h.p6 (dn_of hi hj (by decide))), p9 := fun _ => set_same (by have := h.siz; omega), p10 := fun hj => (set_other (by decide)).trans (h.p10 (dn_of hi hj (by decide))), p7 := fun hj hk => by obtain ⟨u, e1, e2⟩ := h.p7 (dn_of hi hj (by decide)) (fun q => hk (dn_up q)); exact ⟨u, (set_other (by decide)).trans e1, e2⟩, p8 := fun hj hk => by obtain ⟨A, c, e1, e2⟩ := h.p8 (dn_of hi hj (by decide)) h11; exact ⟨A, c, (set_other (by decide)).trans e1, e2⟩, l11 := fun hj => absurd (dn_of hi hj (by decide)) h11, p11 := fun hj => absurd (dn_of hi hj (by decide)) h11, l2 := fun hj => dn_up (h.l2 (dn_of hi hj (by decide))), l3 := fun hj => dn_up (h.l3 (dn_of hi hj (by decide))), l4 := fun hj => dn_up (h.l4 (dn_of hi hj (by decide))), l7 := fun hj => dn_up (h.l7 (dn_of hi hj (by decide))), l8 := fun hj => (fun q => ⟨dn_up q.1, dn_up q.2.1, dn_up q.2.2⟩) (h.l8 (dn_of hi hj (by decide))), l9 := fun _ => dn_up (hpre _ rfl ⟨0, .data⟩ (by simp) rfl), l10 := fun hj => absurd (h.l10 (dn_of hi hj (by decide))) hnd' }⟩
      · have hi : 10 < d.size := by omega
        have hnd' := not_dn hi hnd
        refine wpOp_plain rfl rfl ?_
        have h11 : ¬ dn d 11 := fun q => hnd' (h.l11 q _ (by decide))
        have e9 := h.p9 (hpre _ rfl ⟨9, .data⟩ (by simp) rfl)
        go_simp
        exact ⟨_, rfl, { siz := by simpa using h.siz, gro := fun _ => h.gro h11, own := fun hk => h.own (fun q => hk (dn_up q)), k1 := (set_other (by decide)).trans h.k1, k2 := (set_other (by decide)).trans h.k2, k4 := (set_other (by decide)).trans h.k4, p0 := fun hj => (set_other (by decide)).trans (h.p0 (dn_of hi hj (by decide))), p1 := fun hj => (set_other (by decide)).trans (h.p1 (dn_of hi hj (by decide))), p2 := fun hj => (set_other (by decide)).trans (h.p2 (dn_of hi hj (by decide))), p3 := fun hj => (set_other (by decide)).trans (h.p3 (dn_of hi hj (by decide))), p4 := fun hj => (set_other (by decide)).trans (h.p4 (dn_of hi hj (by decide))), p5 := fun hj => (set_other (by decide)).trans (h.p5 (dn_of hi hj (by decide))), p6 := fun hj => (set_other (by decide)).trans (h.p6 (dn_of hi hj (by decide))), p9 := fun hj => (set_other (by decide)).trans (h.p9 (dn_of hi hj (by decide))), p10 := fun _ => set_same (by have := h.siz; omega), p7 := fun hj hk => by obtain ⟨u, e1, e2⟩ := h.p7 (dn_of hi hj (by decide)) (fun q => hk (dn_up q)); exact ⟨u, (set_other (by decide)).trans e1, e2⟩, p8 := fun hj hk => by obtain ⟨A, c, e1, e2⟩ := h.p8 (dn_of hi hj (by decide)) h11; exact ⟨A, c, (set_other (by decide)).trans e1, e2⟩, l11 := fun hj => absurd (dn_of hi hj (by decide)) h11, p11 := fun hj => absurd (dn_of hi hj (by decide)) h11, l2 := fun hj => dn_up (h.l2 (dn_of hi hj (by decide))), l3 := fun hj => dn_up (h.l3 (dn_of hi hj (by decide))), l4 := fun hj => dn_up (h.l4 (dn_of hi hj (by decide))), l7 := fun hj => dn_up (h.l7 (dn_of hi hj (by decide))), l8 := fun hj => (fun q => ⟨dn_up q.1, dn_up q.2.1, dn_up q.2.2⟩) (h.l8 (dn_of hi hj (by decide))), l9 := fun hj => dn_up (h.l9 (dn_of hi hj (by decide))), l10 := fun _ => dn_up (hpre _ rfl ⟨9, .data⟩ (by simp) rfl) }⟩
      · have hi : 11 < d.size := by omega
        have hnd' := not_dn hi hnd
        refine wpOp_plain rfl rfl ?_
        have h11 : ¬ dn d 11 := hnd'
        have d8 : dn d 8 := hpre _ rfl ⟨8, .data⟩ (by simp) rfl
        have d10 : dn d 10 := hpre _ rfl ⟨10, .data⟩ (by simp) rfl
        have e10 := h.p10 d10
        obtain ⟨A8, c8, e8, hown8⟩ := h.p8 d8 h11
        have hgq := h.gro h11
        obtain ⟨m0, m1, m2⟩ := BX.out wc hgq
        go_simp
        exact ⟨_, rfl, { siz := h.siz, gro := fun hk => absurd (dn_self hi) hk, own := fun hk => absurd (dn_up d8) hk, k1 := h.k1, k2 := h.k2, k4 := h.k4, p0 := fun hj => h.p0 (dn_of hi hj (by decide)), p1 := fun hj => h.p1 (dn_of hi hj (by decide)), p2 := fun hj => h.p2 (dn_of hi hj (by decide)), p3 := fun hj => h.p3 (dn_of hi hj (by decide)), p4 := fun hj => h.p4 (dn_of hi hj (by decide)), p5 := fun hj => h.p5 (dn_of hi hj (by decide)), p6 := fun hj => h.p6 (dn_of hi hj (by decide)), p9 := fun hj => h.p9 (dn_of hi hj (by decide)), p10 := fun hj => h.p10 (dn_of hi hj (by decide)), p7 := fun _ hk => absurd (dn_up d8) hk, p8 := fun _ hk => absurd (dn_self hi) hk, l11 := fun _ j hj => dn_up (all11 h.l2 h.l3 h.l4 h.l7 h.l8 h.l9 h.l10 d8 d10 j hj), p11 := fun _ => ⟨A8, c8, _, hgq, hown8, rfl⟩, l2 := fun hj => dn_up (h.l2 (dn_of hi hj (by decide))), l3 := fun hj => dn_up (h.l3 (dn_of hi hj (by decide))), l4 := fun hj => dn_up (h.l4 (dn_of hi hj (by decide))), l7 := fun hj => dn_up (h.l7 (dn_of hi hj (by decide))), l8 := fun hj => (fun q => ⟨dn_up q.1, dn_up q.2.1, dn_up q.2.2⟩) (h.l8 (dn_of hi hj (by decide))), l9 := fun hj => dn_up (h.l9 (dn_of hi hj (by decide))), l10 := fun hj => dn_up (h.l10 (dn_of hi hj (by decide))) }⟩
  · have himI : ¬ (i : Int) < (most : Int) := by omega
    go_wp2_with fail
    go_end0
    exact ⟨rfl, _, HR1.out, by rw [if_neg him]; exact ⟨rfl, HB1.out⟩, w1, grown_of_below HB1.out, World.grownBy.refl _ _⟩
end Go.Proofs.YtpmnpnlfgfleeaaGreatDoor
