/- lexicon.begin: the matches at each place of a line. Made by gen_begin.py. -/
import Derived.Test.YtpmnpnlfgfleeaaGreatDoorMgTable
import Derived.Lib.OthersKept
namespace Go.Proofs.YtpmnpnlfgfleeaaGreatDoor
open Go.RowKit

def Lx.beginTo (x : Lx.Lexicon) (s : ByteArray) (n : Nat) : List (List Lx.Match) := (List.range n).map fun k => Lx.matchesV x (s.extract k s.size)
def Lx.beginV (x : Lx.Lexicon) (s : ByteArray) : List (List Lx.Match) := Lx.beginTo x s s.size
theorem Lx.beginTo_succ (x : Lx.Lexicon) (s : ByteArray) (n : Nat) : Lx.beginTo x s (n + 1) = Lx.beginTo x s n ++ [Lx.matchesV x (s.extract n s.size)] := by
  simp [Lx.beginTo, List.range_succ]
theorem Lx.beginTo_len (x : Lx.Lexicon) (s : ByteArray) (n : Nat) : (Lx.beginTo x s n).length = n := by simp [Lx.beginTo]
theorem OwnT.aside {w w' : World} {base k : Nat} {v : Value} {ls : List (List Lx.Match)} (h : OwnT w base v ls) (hg : w.grownBy w' (some k)) (hk : k < base) : OwnT w' base v ls := by
  obtain ⟨cells, h1, h2⟩ := h
  refine ⟨cells, h1.kept hg (by
    rcases h1.2 with ⟨rfl, _⟩ | ⟨g, cap, cur, rfl, hg', _⟩
    · exact .inl rfl
    · exact .inr (by simp [Value.ownBlock]; omega)), h2.keep (fun b hbk => ⟨⟨Nat.lt_of_lt_of_le hbk.1 hg.size, hbk.2⟩, hg.block b hbk.1 (fun e => by cases e; have := hbk.2.2; omega)⟩)⟩
theorem grown_iterAt (w : World) (k : Nat) (s : ByteArray) (pos : Nat) : w.grownBy (w.iterAt k s pos) (some k) :=
  ⟨rfl, rfl, rfl, by rw [Lib.iterAt_size]; exact Nat.le_refl _, fun i _ hne => Lib.iterAt_other w k i s pos (fun e => hne (by rw [e]))⟩
theorem grown_setCell (w : World) (k o : Nat) (u : Value) : w.grownBy (w.setCell ⟨k, o, none⟩ u) (some k) :=
  ⟨rfl, rfl, rfl, by simp [World.setCell], fun i _ hne => by simp [World.setCell, Array.getElem?_modify, show ¬ k = i from fun e => hne (by rw [e])]⟩
theorem all8 {p : Nat → Prop} (h0 : p 0) (h1 : p 1) (h2 : p 2) (h3 : p 3) (h4 : p 4) (h5 : p 5) (h6 : p 6) (h7 : p 7) : ∀ j, j < 8 → p j := by
  intro j hj
  have : j = 0 ∨ j = 1 ∨ j = 2 ∨ j = 3 ∨ j = 4 ∨ j = 5 ∨ j = 6 ∨ j = 7 := by omega
  rcases this with rfl | rfl | rfl | rfl | rfl | rfl | rfl | rfl <;> assumption
theorem OwnT.mono {w : World} {base base' : Nat} {v : Value} {ls : List (List Lx.Match)} (h : OwnT w base v ls) (hb : base' ≤ base) : OwnT w base' v ls := by
  obtain ⟨cells, h1, h2⟩ := h
  exact ⟨cells, h1.mono hb, h2.keep (fun b hk => ⟨⟨hk.1, hk.2.1, Nat.le_trans hb hk.2.2⟩, rfl⟩)⟩
theorem iter_new (W : World) (s : ByteArray) (k : Nat) : (W.iter s k).heap[W.heap.size]? = some (.stringIter s k) := heap_alloc_new W _
theorem iter_old (W : World) (s : ByteArray) (k b : Nat) (h : b < W.heap.size) : (W.iter s k).heap[b]? = W.heap[b]? := Below.heap_alloc _ _ _ h
theorem iter_size (W : World) (s : ByteArray) (k : Nat) : (W.iter s k).heap.size = W.heap.size + 1 := by simp [World.iter]
theorem below_iter_at {B : Nat} {a W : World} (h : Below B a W) (hB : B ≤ W.heap.size) (s : ByteArray) (k : Nat) : Below B a (W.iter s k) :=
  h.trans ⟨rfl, rfl, rfl, by rw [iter_size]; omega, fun i hi => iter_old W s k i (by omega)⟩
theorem start3 (w : World) (A B C : Obj) (s : ByteArray) : Below w.heap.size w ((((w.alloc A).alloc B).alloc C).iter s 0) ∧ ((((w.alloc A).alloc B).alloc C).iter s 0).heap.size = w.heap.size + 4 ∧ ((((w.alloc A).alloc B).alloc C).iter s 0).heap[w.heap.size]? = some A ∧
    ((((w.alloc A).alloc B).alloc C).iter s 0).heap[w.heap.size + 1]? = some B ∧ ((((w.alloc A).alloc B).alloc C).iter s 0).heap[w.heap.size + 2]? = some C ∧ ((((w.alloc A).alloc B).alloc C).iter s 0).heap[w.heap.size + 3]? = some (.stringIter s 0) := by
  obtain ⟨h0, h1, h2, h3⟩ := heap3 w A B C
  refine ⟨below_iter_at (below3 _ _ _ _) (by omega) _ _, by rw [iter_size, h3], ?_, ?_, ?_, ?_⟩
  · rw [iter_old _ _ _ _ (by omega)]; exact h0
  · rw [iter_old _ _ _ _ (by omega)]; exact h1
  · rw [iter_old _ _ _ _ (by omega)]; exact h2
  · have := iter_new (((w.alloc A).alloc B).alloc C) s 0
    rwa [h3] at this
theorem eval_tmp {t : Array Value} {k : Nat} {v : Value} (h : t[k]? = some v) : (⟨t, []⟩ : Act).eval (.tmp k) = v := by
  simp [Act.eval, Array.getD_eq_getD_getElem?, h]
theorem allL_at {s : ByteArray} (h : Lx.allL s = true) {k : Nat} (hk : k < s.size) : Lx.letter s[k] = true := by
  unfold Lx.allL at h
  rw [List.all_eq_true] at h
  exact h _ (by simp [ByteArray.getElem_eq_getElem_data])
structure BgR (T0 : Array Value) (wr : World) (B b2 b5 k : Nat) (s : ByteArray) (xv v : Value) (ls : List (List Lx.Match)) (ms : List Lx.Match) (d : Array Bool) (t : Array Value) (wc : World) : Prop where
  siz : t.size = 27
  kp : ∀ i, i < 13 ∨ i = 26 → t[i]? = T0[i]?
  gro : ¬ dn d 10 → wr.grownBy wc v.ownBlock
  own : ¬ dn d 8 → OwnT wc B v ls
  k1 : t[1]? = some (.string s)
  k2 : t[2]? = some (.pointer (some ⟨b2, 0, none⟩))
  k5 : t[5]? = some (.pointer (some ⟨b5, 0, none⟩))
  k6 : t[6]? = some (.int .i64 (k : Int))
  p0 : dn d 0 → t[16]? = some (.pointer (some ⟨b5, 3, none⟩))
  p1 : dn d 1 → t[17]? = some (v)
  p2 : dn d 2 → t[18]? = some (xv)
  p3 : dn d 3 → t[19]? = some (.string s)
  p4 : dn d 4 → t[20]? = some (.int .i64 (k : Int))
  p5 : dn d 5 → t[21]? = some (.string (s.extract k s.size))
  p9 : dn d 9 → t[25]? = some (.pointer (some ⟨b5, 3, none⟩))
  p6 : dn d 6 → ¬ dn d 8 → ∃ A c, t[22]? = some (.slice A ms.length c) ∧ RdMs wc (fun b => b < wc.heap.size ∧ wr.heap.size ≤ b) (.slice A ms.length c) ms ∧
    (dn d 7 → ∃ u, t[23]? = some u ∧ RdS wc wc.heap.size 1 encSl u [(A, ms.length, c)])
  l1 : dn d 1 → dn d 0
  l5 : dn d 5 → dn d 3 ∧ dn d 4
  l6 : dn d 6 → dn d 2 ∧ dn d 5
  l7 : dn d 7 → dn d 6
  p8 : dn d 8 → ¬ dn d 10 → ∃ A c, t[24]? = some (.slice A (ls.length + 1) c) ∧ OwnT wc B (.slice A (ls.length + 1) c) (ls ++ [ms])
  l8 : dn d 8 → ∀ j, j < 8 → dn d j
  l10 : dn d 10 → ∀ j, j < 10 → dn d j
  p10 : dn d 10 → ∃ A c wq, wr.grownBy wq v.ownBlock ∧ OwnT wq B (.slice A (ls.length + 1) c) (ls ++ [ms]) ∧ wc = wq.setCell ⟨b5, 3, none⟩ (.slice A (ls.length + 1) c)
def BgI (T0 : Array Value) (wr : World) (B b2 b5 k : Nat) (s : ByteArray) (xv v : Value) (ls : List (List Lx.Match)) (ms : List Lx.Match) (d : Array Bool) (a : Act) (wc : World) : Prop := ∃ t : Array Value, a = ⟨t, []⟩ ∧ BgR T0 wr B b2 b5 k s xv v ls ms d t wc

set_option maxRecDepth 100000 in
set_option maxHeartbeats 4000000 in
theorem begin_any (x : Lx.Lexicon) (s : ByteArray) (hchk : Lx.checkV x = 0) (hs : s.size ≤ 64) (hal : Lx.allL s = true) (vx : Value) (w : World) (hr : RdL w w.heap.size vx x) :
    Calls Tryz.prog 46 #[vx, .string s] w (fun e w' => ∃ a0 a1 a2 v, vx = .agg #[a0, a1, a2] ∧ e = .returned (.agg #[a0, a1, a2, v, .int .i64 s.size]) ∧ OwnT w' w.heap.size v (Lx.beginV x s) ∧ Below w.heap.size w w') := by
  have HR := Lib.hid hr
  have HCHK := Lib.hid hchk
  have HAL := Lib.hid hal
  obtain ⟨⟨v0, v1, v2, rfl, ⟨A0, c0, rfl, -⟩, ⟨A1, c1, rfl, -⟩, ⟨A2, c2, rfl, -⟩⟩, -, -, -⟩ := hr
  have hs1 : s.size ≤ 9223372036854775807 := by omega
  clear hchk hal
  obtain ⟨i0, hi0, hz0, hs0, hb0⟩ := info_parts info_sMatch
  go_enter Tryz.func46, Tryz.ntmps46
  go_wp2_with fail
  go_loopg [6] s.size (fun g c wr => ∃ (k : Nat) (v : Value), k ≤ s.size ∧ g = s.size - k ∧ OwnT wr (w.heap.size + 4) v (Lx.beginTo x s k) ∧ Below w.heap.size w wr ∧ w.heap.size + 4 ≤ wr.heap.size ∧
    wr.heap[w.heap.size]? = some (.cells #[.slice A0 x.entries.length c0, .slice A1 x.endings.length c1, .slice A2 x.clitics.length c2] 26 (0, 0)) ∧
    wr.heap[w.heap.size + 1]? = some (.cells #[.slice none 0 0, .slice none 0 0, .slice none 0 0, .slice none 0 0, .int .i64 0] 83 (0, 0)) ∧
    wr.heap[w.heap.size + 2]? = some (.cells #[.slice A0 x.entries.length c0, .slice A1 x.endings.length c1, .slice A2 x.clitics.length c2, v, .int .i64 s.size] 83 (0, 0)) ∧
    wr.heap[w.heap.size + 3]? = some (.stringIter s k))
  case atStart =>
    obtain ⟨q1, q2, q3, q4, q5, q6⟩ := start3 w (.cells #[.slice A0 x.entries.length c0, .slice A1 x.endings.length c1, .slice A2 x.clitics.length c2] 26) (.cells #[.slice none 0 0, .slice none 0 0, .slice none 0 0, .slice none 0 0, .int .i64 0] 83)
      (.cells #[.slice A0 x.entries.length c0, .slice A1 x.endings.length c1, .slice A2 x.clitics.length c2, .slice none 0 0, .int .i64 s.size] 83) s
    exact ⟨0, .slice none 0 0, Nat.zero_le _, rfl, OwnT.nil _ _, q1, Nat.le_of_eq q2.symm, q3, q4, q5, q6⟩
  case round =>
    obtain ⟨k, v, hk, rfl, hot, hbel, hsz, hb0', hb1', hb2', hb3'⟩ := hrel
    have HOT := Lib.hid hot
    have HBEL := Lib.hid hbel
    have HB0 := Lib.hid hb0'
    have HB1 := Lib.hid hb1'
    have HB2 := Lib.hid hb2'
    have HB3 := Lib.hid hb3'
    by_cases hlt : k < s.size
    · have hnx := fun ty => Lib.run_next_ascii_at (P := Tryz.prog) wr (w.heap.size + 3) s k ty hb3' hlt (ascii_of_letter _ (allL_at HAL.out hlt))
      clear hot hbel hb0' hb1' hb2' hb3'
      go_wp2_with fail
      obtain ⟨W0, hW0⟩ : ∃ W0, W0 = wr.iterAt (w.heap.size + 3) s (k + 1) := ⟨_, rfl⟩
      rw [← hW0]
      have hgw : wr.grownBy W0 (some (w.heap.size + 3)) := by rw [hW0]; exact grown_iterAt _ _ _ _
      have hsW : W0.heap.size = wr.heap.size := by rw [hW0]; exact Lib.iterAt_size _ _ _ _
      have HBW : Hid (Below w.heap.size w W0) := Lib.hid (by rw [hW0]; exact Lib.below_iterAt HBEL.out (by omega) _ _)
      obtain ⟨ls, hls⟩ : ∃ ls, ls = Lx.beginTo x s k := ⟨_, rfl⟩
      obtain ⟨ms, hms⟩ : ∃ ms, ms = Lx.matchesV x (s.extract k s.size) := ⟨_, rfl⟩
      have HOW : Hid (OwnT W0 (w.heap.size + 4) v ls) := Lib.hid (by rw [hls]; exact HOT.out.aside hgw (by omega))
      have hll : ls.length ≤ 64 := by rw [hls, Lx.beginTo_len]; omega
      have HLS : Hid (Lx.beginTo x s (k + 1) = ls ++ [ms]) := Lib.hid (by rw [hls, hms]; exact Lx.beginTo_succ _ _ _)
      have HMS := Lib.hid hms
      clear hls hms
      have HI : Hid (W0.heap[w.heap.size + 3]? = some (.stringIter s (k + 1))) := Lib.hid (by rw [hW0]; exact Lib.iterAt_heap _ _ _ _ _ HB3.out)
      have HW0 := Lib.hid ((hgw.block w.heap.size (by omega) (by simp)).trans HB0.out)
      have HW1 := Lib.hid ((hgw.block (w.heap.size + 1) (by omega) (by simp)).trans HB1.out)
      have HW2 := Lib.hid ((hgw.block (w.heap.size + 2) (by omega) (by simp)).trans HB2.out)
      have hvlt : ∀ g, v.ownBlock = some g → w.heap.size + 4 ≤ g ∧ g < W0.heap.size := HOW.out.lt
      clear hgw hW0 HOT HBEL HB0 HB1 HB2 HB3 hnx
      have BX : Hid (∀ W, W0.grownBy W v.ownBlock → W.cell? ⟨w.heap.size, 0, none⟩ = some (.slice A0 x.entries.length c0) ∧ W.cell? ⟨w.heap.size, 1, none⟩ = some (.slice A1 x.endings.length c1) ∧ W.cell? ⟨w.heap.size, 2, none⟩ = some (.slice A2 x.clitics.length c2) ∧
          W.cell? ⟨w.heap.size + 2, 3, none⟩ = some v ∧ W.frozen? ⟨w.heap.size + 2, 3, none⟩ = false) := Lib.hid fun W hW => by
        have e0 := (hW.block w.heap.size (by omega) (fun q => by have := (hvlt _ q.symm).1; omega)).trans HW0.out
        have e2 := (hW.block (w.heap.size + 2) (by omega) (fun q => by have := (hvlt _ q.symm).1; omega)).trans HW2.out
        exact ⟨by simp [World.cell?, e0], by simp [World.cell?, e0], by simp [World.cell?, e0], by simp [World.cell?, e2], by simp [World.frozen?, e2]⟩
      have HM : Hid (∀ W, W0.grownBy W v.ownBlock → Calls Tryz.prog 78 #[.agg #[.slice A0 x.entries.length c0, .slice A1 x.endings.length c1, .slice A2 x.clitics.length c2], .string (s.extract k s.size)] W
          (fun e w' => ∃ v, e = .returned v ∧ OwnM w' W.heap.size v ms ∧ Below W.heap.size W w')) := Lib.hid fun W hW => by
        rw [HMS.out]
        exact matches_any x _ HCHK.out (by simp [ByteArray.size_extract]; omega) _ W ((HR.out.below (HBW.out.grown hW (by omega) (fun g hg => by have := (hvlt g hg).1; omega))).more (by have := hW.size; omega))
      obtain ⟨T0, hT0⟩ : ∃ T0 : Array Value, T0 = #[.agg #[.slice A0 x.entries.length c0, .slice A1 x.endings.length c1, .slice A2 x.clitics.length c2], .string s, .pointer (some ⟨w.heap.size, 0, none⟩), undef, .pointer (some ⟨w.heap.size + 1, 0, none⟩), .pointer (some ⟨w.heap.size + 1 + 1, 0, none⟩), .int .i64 (k : Int), .agg #[.slice A0 x.entries.length c0, .slice A1 x.endings.length c1, .slice A2 x.clitics.length c2], .string s, .int .i64 s.size, .agg #[.slice A0 x.entries.length c0, .slice A1 x.endings.length c1, .slice A2 x.clitics.length c2, .slice none 0 0, .int .i64 s.size], .string s, .pointer (some ⟨w.heap.size + 1 + 1 + 1, 0, none⟩), undef, undef, undef, undef, undef, undef, undef, undef, undef, undef, undef, undef, undef, undef] := ⟨_, rfl⟩
      have HT0 := Lib.hid hT0
      clear hT0
      refine wp_region_inv (BgI T0 W0 (w.heap.size + 4) w.heap.size (w.heap.size + 2) k s (.agg #[.slice A0 x.entries.length c0, .slice A1 x.endings.length c1, .slice A2 x.clitics.length c2]) v ls ms) (by kernel_rfl) (by kernel_rfl) ?h0 ?hstep ?hend
      case h0 =>
        have hno : ∀ j, ¬ dn (Array.replicate 11 false) j := by
          intro j; unfold dn; by_cases hj : j < 11 <;> simp [Array.getD, hj]
        exact ⟨_, rfl, { siz := rfl, kp := fun i hi => by (rw [HT0.out]; have hcs : i = 0 ∨ i = 1 ∨ i = 2 ∨ i = 3 ∨ i = 4 ∨ i = 5 ∨ i = 6 ∨ i = 7 ∨ i = 8 ∨ i = 9 ∨ i = 10 ∨ i = 11 ∨ i = 12 ∨ i = 26 := (by omega); rcases hcs with rfl | rfl | rfl | rfl | rfl | rfl | rfl | rfl | rfl | rfl | rfl | rfl | rfl | rfl <;> rfl), gro := fun _ => grown_of_below ((Below.refl _ _).drew), own := fun _ => HOW.out.kept ((Below.refl _ _).drew), k1 := rfl, k2 := rfl, k5 := rfl, k6 := rfl, p0 := fun hj => absurd hj (hno _), p1 := fun hj => absurd hj (hno _), p2 := fun hj => absurd hj (hno _), p3 := fun hj => absurd hj (hno _), p4 := fun hj => absurd hj (hno _), p5 := fun hj => absurd hj (hno _), p9 := fun hj => absurd hj (hno _), p6 := fun hj => absurd hj (hno _), l1 := fun hj => absurd hj (hno _), l5 := fun hj => absurd hj (hno _), l6 := fun hj => absurd hj (hno _), l7 := fun hj => absurd hj (hno _), p8 := fun hj => absurd hj (hno _), l8 := fun hj => absurd hj (hno _), l10 := fun hj => absurd hj (hno _), p10 := fun hj => absurd hj (hno _) }⟩
      case hend =>
        intro d a wc hd hI hall
        obtain ⟨t, rfl, h⟩ := hI
        obtain ⟨A8, c8, wq, hgq, hT, hwc⟩ := h.p10 (dn_all (n := 11) hd hall (by decide))
        have hne : ∀ b, b < w.heap.size + 4 → some b ≠ v.ownBlock := fun b hb q => by have := (hvlt _ q.symm).1; omega
        have hsq := hgq.size
        have hgc : wq.grownBy wc (some (w.heap.size + 2)) := by rw [hwc]; exact grown_setCell _ _ _ _
        have hsc := hgc.size
        have HT : Hid (OwnT wc (w.heap.size + 4) (.slice A8 (ls.length + 1) c8) (Lx.beginTo x s (k + 1))) := Lib.hid (by rw [HLS.out]; exact hT.aside hgc (by omega))
        have HBC : Hid (Below w.heap.size w wc) := Lib.hid (((HBW.out.grown hgq (by omega) (fun g hg => by have := (hvlt g hg).1; omega))).grown hgc (by omega) (fun g hg => by cases hg; omega))
        have hC0 := Lib.hid ((hgc.block w.heap.size (by omega) (by simp)).trans ((hgq.block _ (by omega) (hne _ (by omega))).trans HW0.out))
        have hC1 := Lib.hid ((hgc.block (w.heap.size + 1) (by omega) (by simp)).trans ((hgq.block _ (by omega) (hne _ (by omega))).trans HW1.out))
        have hC3 := Lib.hid ((hgc.block (w.heap.size + 3) (by omega) (by simp)).trans ((hgq.block _ (by omega) (hne _ (by omega))).trans HI.out))
        have hC2 : Hid (wc.heap[w.heap.size + 2]? = some (.cells #[.slice A0 x.entries.length c0, .slice A1 x.endings.length c1, .slice A2 x.clitics.length c2, .slice A8 (ls.length + 1) c8, .int .i64 s.size] 83 (0, 0))) := Lib.hid (by
          have e := (hgq.block (w.heap.size + 2) (by omega) (hne _ (by omega))).trans HW2.out
          rw [hwc]
          simp [World.setCell, Array.getElem?_modify, e])
        have hl : t.toList.length = 27 := h.siz
        obtain ⟨l⟩ := t
        simp only [] at hl
        obtain ⟨t0, l, rfl⟩ := List.exists_cons_of_length_eq_add_one (n := 26) hl; replace hl : l.length = 26 := (by simpa using hl)
        obtain ⟨t1, l, rfl⟩ := List.exists_cons_of_length_eq_add_one (n := 25) hl; replace hl : l.length = 25 := (by simpa using hl)
        obtain ⟨t2, l, rfl⟩ := List.exists_cons_of_length_eq_add_one (n := 24) hl; replace hl : l.length = 24 := (by simpa using hl)
        obtain ⟨t3, l, rfl⟩ := List.exists_cons_of_length_eq_add_one (n := 23) hl; replace hl : l.length = 23 := (by simpa using hl)
        obtain ⟨t4, l, rfl⟩ := List.exists_cons_of_length_eq_add_one (n := 22) hl; replace hl : l.length = 22 := (by simpa using hl)
        obtain ⟨t5, l, rfl⟩ := List.exists_cons_of_length_eq_add_one (n := 21) hl; replace hl : l.length = 21 := (by simpa using hl)
        obtain ⟨t6, l, rfl⟩ := List.exists_cons_of_length_eq_add_one (n := 20) hl; replace hl : l.length = 20 := (by simpa using hl)
        obtain ⟨t7, l, rfl⟩ := List.exists_cons_of_length_eq_add_one (n := 19) hl; replace hl : l.length = 19 := (by simpa using hl)
        obtain ⟨t8, l, rfl⟩ := List.exists_cons_of_length_eq_add_one (n := 18) hl; replace hl : l.length = 18 := (by simpa using hl)
        obtain ⟨t9, l, rfl⟩ := List.exists_cons_of_length_eq_add_one (n := 17) hl; replace hl : l.length = 17 := (by simpa using hl)
        obtain ⟨t10, l, rfl⟩ := List.exists_cons_of_length_eq_add_one (n := 16) hl; replace hl : l.length = 16 := (by simpa using hl)
        obtain ⟨t11, l, rfl⟩ := List.exists_cons_of_length_eq_add_one (n := 15) hl; replace hl : l.length = 15 := (by simpa using hl)
        obtain ⟨t12, l, rfl⟩ := List.exists_cons_of_length_eq_add_one (n := 14) hl; replace hl : l.length = 14 := (by simpa using hl)
        obtain ⟨t13, l, rfl⟩ := List.exists_cons_of_length_eq_add_one (n := 13) hl; replace hl : l.length = 13 := (by simpa using hl)
        obtain ⟨t14, l, rfl⟩ := List.exists_cons_of_length_eq_add_one (n := 12) hl; replace hl : l.length = 12 := (by simpa using hl)
        obtain ⟨t15, l, rfl⟩ := List.exists_cons_of_length_eq_add_one (n := 11) hl; replace hl : l.length = 11 := (by simpa using hl)
        obtain ⟨t16, l, rfl⟩ := List.exists_cons_of_length_eq_add_one (n := 10) hl; replace hl : l.length = 10 := (by simpa using hl)
        obtain ⟨t17, l, rfl⟩ := List.exists_cons_of_length_eq_add_one (n := 9) hl; replace hl : l.length = 9 := (by simpa using hl)
        obtain ⟨t18, l, rfl⟩ := List.exists_cons_of_length_eq_add_one (n := 8) hl; replace hl : l.length = 8 := (by simpa using hl)
        obtain ⟨t19, l, rfl⟩ := List.exists_cons_of_length_eq_add_one (n := 7) hl; replace hl : l.length = 7 := (by simpa using hl)
        obtain ⟨t20, l, rfl⟩ := List.exists_cons_of_length_eq_add_one (n := 6) hl; replace hl : l.length = 6 := (by simpa using hl)
        obtain ⟨t21, l, rfl⟩ := List.exists_cons_of_length_eq_add_one (n := 5) hl; replace hl : l.length = 5 := (by simpa using hl)
        obtain ⟨t22, l, rfl⟩ := List.exists_cons_of_length_eq_add_one (n := 4) hl; replace hl : l.length = 4 := (by simpa using hl)
        obtain ⟨t23, l, rfl⟩ := List.exists_cons_of_length_eq_add_one (n := 3) hl; replace hl : l.length = 3 := (by simpa using hl)
        obtain ⟨t24, l, rfl⟩ := List.exists_cons_of_length_eq_add_one (n := 2) hl; replace hl : l.length = 2 := (by simpa using hl)
        obtain ⟨t25, l, rfl⟩ := List.exists_cons_of_length_eq_add_one (n := 1) hl; replace hl : l.length = 1 := (by simpa using hl)
        obtain ⟨t26, l, rfl⟩ := List.exists_cons_of_length_eq_add_one (n := 0) hl; replace hl : l.length = 0 := (by simpa using hl)
        obtain rfl := List.eq_nil_of_length_eq_zero hl
        clear hl
        obtain rfl : t0 = .agg #[.slice A0 x.entries.length c0, .slice A1 x.endings.length c1, .slice A2 x.clitics.length c2] := by have e := h.kp 0 (by omega); rw [HT0.out] at e; simpa using e
        obtain rfl : t1 = .string s := by have e := h.kp 1 (by omega); rw [HT0.out] at e; simpa using e
        obtain rfl : t2 = .pointer (some ⟨w.heap.size, 0, none⟩) := by have e := h.kp 2 (by omega); rw [HT0.out] at e; simpa using e
        obtain rfl : t3 = undef := by have e := h.kp 3 (by omega); rw [HT0.out] at e; simpa using e
        obtain rfl : t4 = .pointer (some ⟨w.heap.size + 1, 0, none⟩) := by have e := h.kp 4 (by omega); rw [HT0.out] at e; simpa using e
        obtain rfl : t5 = .pointer (some ⟨w.heap.size + 1 + 1, 0, none⟩) := by have e := h.kp 5 (by omega); rw [HT0.out] at e; simpa using e
        obtain rfl : t7 = .agg #[.slice A0 x.entries.length c0, .slice A1 x.endings.length c1, .slice A2 x.clitics.length c2] := by have e := h.kp 7 (by omega); rw [HT0.out] at e; simpa using e
        obtain rfl : t8 = .string s := by have e := h.kp 8 (by omega); rw [HT0.out] at e; simpa using e
        obtain rfl : t9 = .int .i64 s.size := by have e := h.kp 9 (by omega); rw [HT0.out] at e; simpa using e
        obtain rfl : t10 = .agg #[.slice A0 x.entries.length c0, .slice A1 x.endings.length c1, .slice A2 x.clitics.length c2, .slice none 0 0, .int .i64 s.size] := by have e := h.kp 10 (by omega); rw [HT0.out] at e; simpa using e
        obtain rfl : t11 = .string s := by have e := h.kp 11 (by omega); rw [HT0.out] at e; simpa using e
        obtain rfl : t12 = .pointer (some ⟨w.heap.size + 1 + 1 + 1, 0, none⟩) := by have e := h.kp 12 (by omega); rw [HT0.out] at e; simpa using e
        obtain rfl : t26 = undef := by have e := h.kp 26 (by omega); rw [HT0.out] at e; simpa using e
        clear h hall hwc hgc hgq hT
        go_wp2_with fail
        go_roundg (s.size - (k + 1))
        case measure => omega
        case rel => exact ⟨k + 1, _, by omega, rfl, HT.out, HBC.out, by omega, hC0.out, hC1.out, hC2.out, hC3.out⟩
      case hstep =>
        intro d a wc i hd hI hi
        obtain ⟨hlt', hnd, hpre⟩ := mem_ready hi
        have hd' : d.size = 11 := hd
        have hin : i < 11 := hlt'
        clear hi hd hlt'
        obtain ⟨t, rfl, h⟩ := hI
        have hcs : i = 0 ∨ i = 1 ∨ i = 2 ∨ i = 3 ∨ i = 4 ∨ i = 5 ∨ i = 6 ∨ i = 7 ∨ i = 8 ∨ i = 9 ∨ i = 10 := by omega
        rcases hcs with rfl | rfl | rfl | rfl | rfl | rfl | rfl | rfl | rfl | rfl | rfl
        · have hi : 0 < d.size := by omega
          have hnd' := not_dn hi hnd
          refine wpOp_plain rfl rfl ?_
          have h10 : ¬ dn d 10 := fun q => hnd' (h.l10 q _ (by decide))
          have h8 : ¬ dn d 8 := fun q => hnd' (h.l8 q _ (by decide))
          have q5 := h.k5
          go_simp
          exact ⟨_, rfl, { siz := by simpa using h.siz, kp := fun i hi' => (set_other (by omega)).trans (h.kp i hi'), gro := fun _ => h.gro h10, own := fun _ => h.own h8, k1 := (set_other (by decide)).trans h.k1, k2 := (set_other (by decide)).trans h.k2, k5 := (set_other (by decide)).trans h.k5, k6 := (set_other (by decide)).trans h.k6, p0 := fun _ => set_same (by have := h.siz; omega), p1 := fun hj => (set_other (by decide)).trans (h.p1 (dn_of hi hj (by decide))), p2 := fun hj => (set_other (by decide)).trans (h.p2 (dn_of hi hj (by decide))), p3 := fun hj => (set_other (by decide)).trans (h.p3 (dn_of hi hj (by decide))), p4 := fun hj => (set_other (by decide)).trans (h.p4 (dn_of hi hj (by decide))), p5 := fun hj => (set_other (by decide)).trans (h.p5 (dn_of hi hj (by decide))), p9 := fun hj => (set_other (by decide)).trans (h.p9 (dn_of hi hj (by decide))), p6 := fun hj hk => by obtain ⟨A, c, e1, e2, e3⟩ := h.p6 (dn_of hi hj (by decide)) h8; exact ⟨A, c, (set_other (by decide)).trans e1, e2, fun h7 => by obtain ⟨u, f1, f2⟩ := e3 (dn_of hi h7 (by decide)); exact ⟨u, (set_other (by decide)).trans f1, f2⟩⟩, l1 := fun hj => absurd (h.l1 (dn_of hi hj (by decide))) hnd', l5 := fun hj => (fun q => ⟨dn_up q.1, dn_up q.2⟩) (h.l5 (dn_of hi hj (by decide))), l6 := fun hj => (fun q => ⟨dn_up q.1, dn_up q.2⟩) (h.l6 (dn_of hi hj (by decide))), l7 := fun hj => dn_up (h.l7 (dn_of hi hj (by decide))), p8 := fun hj _ => absurd (dn_of hi hj (by decide)) h8, l8 := fun hj => absurd (dn_of hi hj (by decide)) h8, l10 := fun hj => absurd (dn_of hi hj (by decide)) h10, p10 := fun hj => absurd (dn_of hi hj (by decide)) h10 }⟩
        · have hi : 1 < d.size := by omega
          have hnd' := not_dn hi hnd
          refine wpOp_plain rfl rfl ?_
          have h10 : ¬ dn d 10 := fun q => hnd' (h.l10 q _ (by decide))
          have h8 : ¬ dn d 8 := fun q => hnd' (h.l8 q _ (by decide))
          have e0 := h.p0 (hpre _ rfl ⟨0, .data⟩ (by simp) rfl)
          obtain ⟨m0, m1, m2, m3, m4⟩ := BX.out wc (h.gro h10)
          go_simp
          exact ⟨_, rfl, { siz := by simpa using h.siz, kp := fun i hi' => (set_other (by omega)).trans (h.kp i hi'), gro := fun _ => h.gro h10, own := fun _ => h.own h8, k1 := (set_other (by decide)).trans h.k1, k2 := (set_other (by decide)).trans h.k2, k5 := (set_other (by decide)).trans h.k5, k6 := (set_other (by decide)).trans h.k6, p0 := fun hj => (set_other (by decide)).trans (h.p0 (dn_of hi hj (by decide))), p1 := fun _ => set_same (by have := h.siz; omega), p2 := fun hj => (set_other (by decide)).trans (h.p2 (dn_of hi hj (by decide))), p3 := fun hj => (set_other (by decide)).trans (h.p3 (dn_of hi hj (by decide))), p4 := fun hj => (set_other (by decide)).trans (h.p4 (dn_of hi hj (by decide))), p5 := fun hj => (set_other (by decide)).trans (h.p5 (dn_of hi hj (by decide))), p9 := fun hj => (set_other (by decide)).trans (h.p9 (dn_of hi hj (by decide))), p6 := fun hj hk => by obtain ⟨A, c, e1, e2, e3⟩ := h.p6 (dn_of hi hj (by decide)) h8; exact ⟨A, c, (set_other (by decide)).trans e1, e2, fun h7 => by obtain ⟨u, f1, f2⟩ := e3 (dn_of hi h7 (by decide)); exact ⟨u, (set_other (by decide)).trans f1, f2⟩⟩, l1 := fun _ => dn_up (hpre _ rfl ⟨0, .data⟩ (by simp) rfl), l5 := fun hj => (fun q => ⟨dn_up q.1, dn_up q.2⟩) (h.l5 (dn_of hi hj (by decide))), l6 := fun hj => (fun q => ⟨dn_up q.1, dn_up q.2⟩) (h.l6 (dn_of hi hj (by decide))), l7 := fun hj => dn_up (h.l7 (dn_of hi hj (by decide))), p8 := fun hj _ => absurd (dn_of hi hj (by decide)) h8, l8 := fun hj => absurd (dn_of hi hj (by decide)) h8, l10 := fun hj => absurd (dn_of hi hj (by decide)) h10, p10 := fun hj => absurd (dn_of hi hj (by decide)) h10 }⟩
        · have hi : 2 < d.size := by omega
          have hnd' := not_dn hi hnd
          refine wpOp_plain rfl rfl ?_
          have h10 : ¬ dn d 10 := fun q => hnd' (h.l10 q _ (by decide))
          have h8 : ¬ dn d 8 := fun q => hnd' (h.l8 q _ (by decide))
          have q2 := h.k2
          obtain ⟨m0, m1, m2, m3, m4⟩ := BX.out wc (h.gro h10)
          go_simp
          exact ⟨_, rfl, { siz := by simpa using h.siz, kp := fun i hi' => (set_other (by omega)).trans (h.kp i hi'), gro := fun _ => h.gro h10, own := fun _ => h.own h8, k1 := (set_other (by decide)).trans h.k1, k2 := (set_other (by decide)).trans h.k2, k5 := (set_other (by decide)).trans h.k5, k6 := (set_other (by decide)).trans h.k6, p0 := fun hj => (set_other (by decide)).trans (h.p0 (dn_of hi hj (by decide))), p1 := fun hj => (set_other (by decide)).trans (h.p1 (dn_of hi hj (by decide))), p2 := fun _ => set_same (by have := h.siz; omega), p3 := fun hj => (set_other (by decide)).trans (h.p3 (dn_of hi hj (by decide))), p4 := fun hj => (set_other (by decide)).trans (h.p4 (dn_of hi hj (by decide))), p5 := fun hj => (set_other (by decide)).trans (h.p5 (dn_of hi hj (by decide))), p9 := fun hj => (set_other (by decide)).trans (h.p9 (dn_of hi hj (by decide))), p6 := fun hj hk => by obtain ⟨A, c, e1, e2, e3⟩ := h.p6 (dn_of hi hj (by decide)) h8; exact ⟨A, c, (set_other (by decide)).trans e1, e2, fun h7 => by obtain ⟨u, f1, f2⟩ := e3 (dn_of hi h7 (by decide)); exact ⟨u, (set_other (by decide)).trans f1, f2⟩⟩, l1 := fun hj => dn_up (h.l1 (dn_of hi hj (by decide))), l5 := fun hj => (fun q => ⟨dn_up q.1, dn_up q.2⟩) (h.l5 (dn_of hi hj (by decide))), l6 := fun hj => absurd (h.l6 (dn_of hi hj (by decide))).1 hnd', l7 := fun hj => dn_up (h.l7 (dn_of hi hj (by decide))), p8 := fun hj _ => absurd (dn_of hi hj (by decide)) h8, l8 := fun hj => absurd (dn_of hi hj (by decide)) h8, l10 := fun hj => absurd (dn_of hi hj (by decide)) h10, p10 := fun hj => absurd (dn_of hi hj (by decide)) h10 }⟩
        · have hi : 3 < d.size := by omega
          have hnd' := not_dn hi hnd
          refine wpOp_plain rfl rfl ?_
          have h10 : ¬ dn d 10 := fun q => hnd' (h.l10 q _ (by decide))
          have h8 : ¬ dn d 8 := fun q => hnd' (h.l8 q _ (by decide))
          have q1 := h.k1
          go_simp
          exact ⟨_, rfl, { siz := by simpa using h.siz, kp := fun i hi' => (set_other (by omega)).trans (h.kp i hi'), gro := fun _ => h.gro h10, own := fun _ => h.own h8, k1 := (set_other (by decide)).trans h.k1, k2 := (set_other (by decide)).trans h.k2, k5 := (set_other (by decide)).trans h.k5, k6 := (set_other (by decide)).trans h.k6, p0 := fun hj => (set_other (by decide)).trans (h.p0 (dn_of hi hj (by decide))), p1 := fun hj => (set_other (by decide)).trans (h.p1 (dn_of hi hj (by decide))), p2 := fun hj => (set_other (by decide)).trans (h.p2 (dn_of hi hj (by decide))), p3 := fun _ => set_same (by have := h.siz; omega), p4 := fun hj => (set_other (by decide)).trans (h.p4 (dn_of hi hj (by decide))), p5 := fun hj => (set_other (by decide)).trans (h.p5 (dn_of hi hj (by decide))), p9 := fun hj => (set_other (by decide)).trans (h.p9 (dn_of hi hj (by decide))), p6 := fun hj hk => by obtain ⟨A, c, e1, e2, e3⟩ := h.p6 (dn_of hi hj (by decide)) h8; exact ⟨A, c, (set_other (by decide)).trans e1, e2, fun h7 => by obtain ⟨u, f1, f2⟩ := e3 (dn_of hi h7 (by decide)); exact ⟨u, (set_other (by decide)).trans f1, f2⟩⟩, l1 := fun hj => dn_up (h.l1 (dn_of hi hj (by decide))), l5 := fun hj => absurd (h.l5 (dn_of hi hj (by decide))).1 hnd', l6 := fun hj => (fun q => ⟨dn_up q.1, dn_up q.2⟩) (h.l6 (dn_of hi hj (by decide))), l7 := fun hj => dn_up (h.l7 (dn_of hi hj (by decide))), p8 := fun hj _ => absurd (dn_of hi hj (by decide)) h8, l8 := fun hj => absurd (dn_of hi hj (by decide)) h8, l10 := fun hj => absurd (dn_of hi hj (by decide)) h10, p10 := fun hj => absurd (dn_of hi hj (by decide)) h10 }⟩
        · have hi : 4 < d.size := by omega
          have hnd' := not_dn hi hnd
          refine wpOp_plain rfl rfl ?_
          have h10 : ¬ dn d 10 := fun q => hnd' (h.l10 q _ (by decide))
          have h8 : ¬ dn d 8 := fun q => hnd' (h.l8 q _ (by decide))
          have q6 := h.k6
          go_simp
          exact ⟨_, rfl, { siz := by simpa using h.siz, kp := fun i hi' => (set_other (by omega)).trans (h.kp i hi'), gro := fun _ => h.gro h10, own := fun _ => h.own h8, k1 := (set_other (by decide)).trans h.k1, k2 := (set_other (by decide)).trans h.k2, k5 := (set_other (by decide)).trans h.k5, k6 := (set_other (by decide)).trans h.k6, p0 := fun hj => (set_other (by decide)).trans (h.p0 (dn_of hi hj (by decide))), p1 := fun hj => (set_other (by decide)).trans (h.p1 (dn_of hi hj (by decide))), p2 := fun hj => (set_other (by decide)).trans (h.p2 (dn_of hi hj (by decide))), p3 := fun hj => (set_other (by decide)).trans (h.p3 (dn_of hi hj (by decide))), p4 := fun _ => set_same (by have := h.siz; omega), p5 := fun hj => (set_other (by decide)).trans (h.p5 (dn_of hi hj (by decide))), p9 := fun hj => (set_other (by decide)).trans (h.p9 (dn_of hi hj (by decide))), p6 := fun hj hk => by obtain ⟨A, c, e1, e2, e3⟩ := h.p6 (dn_of hi hj (by decide)) h8; exact ⟨A, c, (set_other (by decide)).trans e1, e2, fun h7 => by obtain ⟨u, f1, f2⟩ := e3 (dn_of hi h7 (by decide)); exact ⟨u, (set_other (by decide)).trans f1, f2⟩⟩, l1 := fun hj => dn_up (h.l1 (dn_of hi hj (by decide))), l5 := fun hj => absurd (h.l5 (dn_of hi hj (by decide))).2 hnd', l6 := fun hj => (fun q => ⟨dn_up q.1, dn_up q.2⟩) (h.l6 (dn_of hi hj (by decide))), l7 := fun hj => dn_up (h.l7 (dn_of hi hj (by decide))), p8 := fun hj _ => absurd (dn_of hi hj (by decide)) h8, l8 := fun hj => absurd (dn_of hi hj (by decide)) h8, l10 := fun hj => absurd (dn_of hi hj (by decide)) h10, p10 := fun hj => absurd (dn_of hi hj (by decide)) h10 }⟩
        · have hi : 5 < d.size := by omega
          have hnd' := not_dn hi hnd
          refine wpOp_plain rfl rfl ?_
          have h10 : ¬ dn d 10 := fun q => hnd' (h.l10 q _ (by decide))
          have h8 : ¬ dn d 8 := fun q => hnd' (h.l8 q _ (by decide))
          have e3 := h.p3 (hpre _ rfl ⟨3, .data⟩ (by simp) rfl)
          have e4 := h.p4 (hpre _ rfl ⟨4, .data⟩ (by simp) rfl)
          go_simp
          exact ⟨_, rfl, { siz := by simpa using h.siz, kp := fun i hi' => (set_other (by omega)).trans (h.kp i hi'), gro := fun _ => h.gro h10, own := fun _ => h.own h8, k1 := (set_other (by decide)).trans h.k1, k2 := (set_other (by decide)).trans h.k2, k5 := (set_other (by decide)).trans h.k5, k6 := (set_other (by decide)).trans h.k6, p0 := fun hj => (set_other (by decide)).trans (h.p0 (dn_of hi hj (by decide))), p1 := fun hj => (set_other (by decide)).trans (h.p1 (dn_of hi hj (by decide))), p2 := fun hj => (set_other (by decide)).trans (h.p2 (dn_of hi hj (by decide))), p3 := fun hj => (set_other (by decide)).trans (h.p3 (dn_of hi hj (by decide))), p4 := fun hj => (set_other (by decide)).trans (h.p4 (dn_of hi hj (by decide))), p5 := fun _ => set_same (by have := h.siz; omega), p9 := fun hj => (set_other (by decide)).trans (h.p9 (dn_of hi hj (by decide))), p6 := fun hj hk => by obtain ⟨A, c, e1, e2, e3⟩ := h.p6 (dn_of hi hj (by decide)) h8; exact ⟨A, c, (set_other (by decide)).trans e1, e2, fun h7 => by obtain ⟨u, f1, f2⟩ := e3 (dn_of hi h7 (by decide)); exact ⟨u, (set_other (by decide)).trans f1, f2⟩⟩, l1 := fun hj => dn_up (h.l1 (dn_of hi hj (by decide))), l5 := fun _ => ⟨dn_up (hpre _ rfl ⟨3, .data⟩ (by simp) rfl), dn_up (hpre _ rfl ⟨4, .data⟩ (by simp) rfl)⟩, l6 := fun hj => absurd (h.l6 (dn_of hi hj (by decide))).2 hnd', l7 := fun hj => dn_up (h.l7 (dn_of hi hj (by decide))), p8 := fun hj _ => absurd (dn_of hi hj (by decide)) h8, l8 := fun hj => absurd (dn_of hi hj (by decide)) h8, l10 := fun hj => absurd (dn_of hi hj (by decide)) h10, p10 := fun hj => absurd (dn_of hi hj (by decide)) h10 }⟩
        · have hi : 6 < d.size := by omega
          have hnd' := not_dn hi hnd
          refine wpOp_plain rfl rfl ?_
          have h10 : ¬ dn d 10 := fun q => hnd' (h.l10 q _ (by decide))
          have h8 : ¬ dn d 8 := fun q => hnd' (h.l8 q _ (by decide))
          have e2 := h.p2 (hpre _ rfl ⟨2, .data⟩ (by simp) rfl)
          have e5 := h.p5 (hpre _ rfl ⟨5, .data⟩ (by simp) rfl)
          go_simp
          refine (HM.out wc (h.gro h10)).mono ?_
          rintro e1 w1 ⟨vm, rfl, hom, hb⟩
          have hrd := (rdms_of_own hom).keep (w' := w1) (ok' := fun b => b < w1.heap.size ∧ W0.heap.size ≤ b) (fun b hk => ⟨⟨hk.1, Nat.le_trans (h.gro h10).size hk.2⟩, rfl⟩)
          obtain ⟨Am, cm, rfl⟩ := hrd.form
          exact ⟨_, rfl, { siz := by simpa using h.siz, kp := fun i hi' => (set_other (by omega)).trans (h.kp i hi'), gro := fun _ => grown_after (h.gro h10) (grown_of_below hb) (.inl rfl), own := fun _ => (h.own h8).kept hb, k1 := (set_other (by decide)).trans h.k1, k2 := (set_other (by decide)).trans h.k2, k5 := (set_other (by decide)).trans h.k5, k6 := (set_other (by decide)).trans h.k6, p0 := fun hj => (set_other (by decide)).trans (h.p0 (dn_of hi hj (by decide))), p1 := fun hj => (set_other (by decide)).trans (h.p1 (dn_of hi hj (by decide))), p2 := fun hj => (set_other (by decide)).trans (h.p2 (dn_of hi hj (by decide))), p3 := fun hj => (set_other (by decide)).trans (h.p3 (dn_of hi hj (by decide))), p4 := fun hj => (set_other (by decide)).trans (h.p4 (dn_of hi hj (by decide))), p5 := fun hj => (set_other (by decide)).trans (h.p5 (dn_of hi hj (by decide))), p9 := fun hj => (set_other (by decide)).trans (h.p9 (dn_of hi hj (by decide))), p6 := fun _ _ => ⟨Am, cm, set_same (by have := h.siz; omega), hrd, fun h7 => absurd (h.l7 (dn_of hi h7 (by decide))) hnd'⟩, l1 := fun hj => dn_up (h.l1 (dn_of hi hj (by decide))), l5 := fun hj => (fun q => ⟨dn_up q.1, dn_up q.2⟩) (h.l5 (dn_of hi hj (by decide))), l6 := fun _ => ⟨dn_up (hpre _ rfl ⟨2, .data⟩ (by simp) rfl), dn_up (hpre _ rfl ⟨5, .data⟩ (by simp) rfl)⟩, l7 := fun hj => absurd (h.l7 (dn_of hi hj (by decide))) hnd', p8 := fun hj _ => absurd (dn_of hi hj (by decide)) h8, l8 := fun hj => absurd (dn_of hi hj (by decide)) h8, l10 := fun hj => absurd (dn_of hi hj (by decide)) h10, p10 := fun hj => absurd (dn_of hi hj (by decide)) h10 }⟩
        · have hi : 7 < d.size := by omega
          have hnd' := not_dn hi hnd
          refine wpOp_plain rfl rfl ?_
          have h10 : ¬ dn d 10 := fun q => hnd' (h.l10 q _ (by decide))
          have h8 : ¬ dn d 8 := fun q => hnd' (h.l8 q _ (by decide))
          obtain ⟨Am, cm, e6, hrd, -⟩ := h.p6 (hpre _ rfl ⟨6, .data⟩ (by simp) rfl) h8
          have hb : Below wc.heap.size wc (wc.alloc (.cells #[.slice Am ms.length cm] 85)) := (Below.refl _ _).alloc (Nat.le_refl _) _
          go_simp
          exact ⟨_, rfl, { siz := by simpa using h.siz, kp := fun i hi' => (set_other (by omega)).trans (h.kp i hi'), gro := fun _ => grown_after (h.gro h10) (grown_of_below hb) (.inl rfl), own := fun _ => (h.own h8).kept hb, k1 := (set_other (by decide)).trans h.k1, k2 := (set_other (by decide)).trans h.k2, k5 := (set_other (by decide)).trans h.k5, k6 := (set_other (by decide)).trans h.k6, p0 := fun hj => (set_other (by decide)).trans (h.p0 (dn_of hi hj (by decide))), p1 := fun hj => (set_other (by decide)).trans (h.p1 (dn_of hi hj (by decide))), p2 := fun hj => (set_other (by decide)).trans (h.p2 (dn_of hi hj (by decide))), p3 := fun hj => (set_other (by decide)).trans (h.p3 (dn_of hi hj (by decide))), p4 := fun hj => (set_other (by decide)).trans (h.p4 (dn_of hi hj (by decide))), p5 := fun hj => (set_other (by decide)).trans (h.p5 (dn_of hi hj (by decide))), p9 := fun hj => (set_other (by decide)).trans (h.p9 (dn_of hi hj (by decide))), p6 := fun hj _ => ⟨Am, cm, (set_other (by decide)).trans e6, hrd.keep (fun b hk => ⟨⟨Nat.lt_of_lt_of_le hk.1 hb.size, hk.2⟩, hb.block _ hk.1⟩), fun _ => ⟨_, set_same (by have := h.siz; omega), rds_block (xs := [(Am, ms.length, cm)]) len_sl (heap_alloc_new _ _) rfl (by simp) (Nat.le_refl 1) (by decide)⟩⟩, l1 := fun hj => dn_up (h.l1 (dn_of hi hj (by decide))), l5 := fun hj => (fun q => ⟨dn_up q.1, dn_up q.2⟩) (h.l5 (dn_of hi hj (by decide))), l6 := fun hj => (fun q => ⟨dn_up q.1, dn_up q.2⟩) (h.l6 (dn_of hi hj (by decide))), l7 := fun _ => dn_up (hpre _ rfl ⟨6, .data⟩ (by simp) rfl), p8 := fun hj _ => absurd (dn_of hi hj (by decide)) h8, l8 := fun hj => absurd (dn_of hi hj (by decide)) h8, l10 := fun hj => absurd (dn_of hi hj (by decide)) h10, p10 := fun hj => absurd (dn_of hi hj (by decide)) h10 }⟩
        · have hi : 8 < d.size := by omega
          have hnd' := not_dn hi hnd
          refine wpOp_plain rfl rfl ?_
          have h10 : ¬ dn d 10 := fun q => hnd' (h.l10 q _ (by decide))
          have h8 : ¬ dn d 8 := hnd'
          have e1 := h.p1 (hpre _ rfl ⟨1, .data⟩ (by simp) rfl)
          have d7 : dn d 7 := hpre _ rfl ⟨7, .data⟩ (by simp) rfl
          have d6 := h.l7 d7
          obtain ⟨Am, cm, e6, hrd, h23⟩ := h.p6 d6 h8
          obtain ⟨u, e7, hu⟩ := h23 d7
          obtain ⟨vs, hown, hrt⟩ := id (h.own h8)
          have hall8 : ∀ j, j < 8 → dn (d.setIfInBounds 8 true) j := fun j hj => dn_up (all8 (h.l1 (hpre _ rfl ⟨1, .data⟩ (by simp) rfl)) (hpre _ rfl ⟨1, .data⟩ (by simp) rfl) (h.l6 d6).1 (h.l5 (h.l6 d6).2).1 (h.l5 (h.l6 d6).2).2 (h.l6 d6).2 d6 d7 j hj)
          refine wp_append_rd (enc := encSl) (.tmp 17) (.tmp 23) _ rfl (w.heap.size + 4) 85 i0 _ 1 24 len_sl one_sl Tryz.underlying81 hi0 hz0 hs0 hb0 rfl (by decide) v ls.length vs (eval_tmp e1) hown wc.heap.size u [(Am, ms.length, cm)] (eval_tmp e7) hu (by simp only [maxLen]; show ls.length + 1 ≤ _; omega) (by show (ls.length + 1) * 24 ≤ _; omega) (by have := (h.gro h10).size; omega) ?_
          intro v' w' hown' hg hat
          have hT : OwnT w' (w.heap.size + 4) v' (ls ++ [ms]) := ownT_snoc hrt (hrd.keep fun b hk => ⟨⟨hk.1, (fun q => by have := hvlt _ q; omega), by have := hk.2; omega⟩, rfl⟩) (by simpa [encSl] using hown') hg (hat.imp id fun q => ⟨_, q, Nat.le_refl _⟩)
          obtain ⟨A8, c8, rfl⟩ := own_form hown'
          exact ⟨_, rfl, { siz := by simpa using h.siz, kp := fun i hi' => (set_other (by omega)).trans (h.kp i hi'), gro := fun _ => grown_after (h.gro h10) hg (.inl rfl), own := fun hj => absurd (dn_self hi) hj, k1 := (set_other (by decide)).trans h.k1, k2 := (set_other (by decide)).trans h.k2, k5 := (set_other (by decide)).trans h.k5, k6 := (set_other (by decide)).trans h.k6, p0 := fun hj => (set_other (by decide)).trans (h.p0 (dn_of hi hj (by decide))), p1 := fun hj => (set_other (by decide)).trans (h.p1 (dn_of hi hj (by decide))), p2 := fun hj => (set_other (by decide)).trans (h.p2 (dn_of hi hj (by decide))), p3 := fun hj => (set_other (by decide)).trans (h.p3 (dn_of hi hj (by decide))), p4 := fun hj => (set_other (by decide)).trans (h.p4 (dn_of hi hj (by decide))), p5 := fun hj => (set_other (by decide)).trans (h.p5 (dn_of hi hj (by decide))), p9 := fun hj => (set_other (by decide)).trans (h.p9 (dn_of hi hj (by decide))), p6 := fun _ hk => absurd (dn_self hi) hk, l1 := fun hj => dn_up (h.l1 (dn_of hi hj (by decide))), l5 := fun hj => (fun q => ⟨dn_up q.1, dn_up q.2⟩) (h.l5 (dn_of hi hj (by decide))), l6 := fun hj => (fun q => ⟨dn_up q.1, dn_up q.2⟩) (h.l6 (dn_of hi hj (by decide))), l7 := fun hj => dn_up (h.l7 (dn_of hi hj (by decide))), p8 := fun _ _ => ⟨A8, c8, set_same (by have := h.siz; show 24 < t.size; omega), hT⟩, l8 := fun _ => hall8, l10 := fun hj => absurd (dn_of hi hj (by decide)) h10, p10 := fun hj => absurd (dn_of hi hj (by decide)) h10 }⟩
        · have hi : 9 < d.size := by omega
          have hnd' := not_dn hi hnd
          refine wpOp_plain rfl rfl ?_
          have h10 : ¬ dn d 10 := fun q => hnd' (h.l10 q _ (by decide))
          have q5 := h.k5
          go_simp
          exact ⟨_, rfl, { siz := by simpa using h.siz, kp := fun i hi' => (set_other (by omega)).trans (h.kp i hi'), gro := fun _ => h.gro h10, own := fun hj => h.own (fun q => hj (dn_up q)), k1 := (set_other (by decide)).trans h.k1, k2 := (set_other (by decide)).trans h.k2, k5 := (set_other (by decide)).trans h.k5, k6 := (set_other (by decide)).trans h.k6, p0 := fun hj => (set_other (by decide)).trans (h.p0 (dn_of hi hj (by decide))), p1 := fun hj => (set_other (by decide)).trans (h.p1 (dn_of hi hj (by decide))), p2 := fun hj => (set_other (by decide)).trans (h.p2 (dn_of hi hj (by decide))), p3 := fun hj => (set_other (by decide)).trans (h.p3 (dn_of hi hj (by decide))), p4 := fun hj => (set_other (by decide)).trans (h.p4 (dn_of hi hj (by decide))), p5 := fun hj => (set_other (by decide)).trans (h.p5 (dn_of hi hj (by decide))), p9 := fun _ => set_same (by have := h.siz; omega), p6 := fun hj hk => by obtain ⟨A, c, e1, e2, e3⟩ := h.p6 (dn_of hi hj (by decide)) (fun q => hk (dn_up q)); exact ⟨A, c, (set_other (by decide)).trans e1, e2, fun h7 => by obtain ⟨u, f1, f2⟩ := e3 (dn_of hi h7 (by decide)); exact ⟨u, (set_other (by decide)).trans f1, f2⟩⟩, l1 := fun hj => dn_up (h.l1 (dn_of hi hj (by decide))), l5 := fun hj => (fun q => ⟨dn_up q.1, dn_up q.2⟩) (h.l5 (dn_of hi hj (by decide))), l6 := fun hj => (fun q => ⟨dn_up q.1, dn_up q.2⟩) (h.l6 (dn_of hi hj (by decide))), l7 := fun hj => dn_up (h.l7 (dn_of hi hj (by decide))), p8 := fun hj _ => by obtain ⟨A, c, e1, e2⟩ := h.p8 (dn_of hi hj (by decide)) h10; exact ⟨A, c, (set_other (by decide)).trans e1, e2⟩, l8 := fun hj j hjj => dn_up (h.l8 (dn_of hi hj (by decide)) j hjj), l10 := fun hj => absurd (dn_of hi hj (by decide)) h10, p10 := fun hj => absurd (dn_of hi hj (by decide)) h10 }⟩
        · have hi : 10 < d.size := by omega
          have hnd' := not_dn hi hnd
          refine wpOp_plain rfl rfl ?_
          have h10 : ¬ dn d 10 := hnd'
          have d8 : dn d 8 := hpre _ rfl ⟨8, .data⟩ (by simp) rfl
          have d9 : dn d 9 := hpre _ rfl ⟨9, .data⟩ (by simp) rfl
          have e9 := h.p9 d9
          obtain ⟨A8, c8, e8, hT⟩ := h.p8 d8 h10
          have hgq := h.gro h10
          obtain ⟨m0, m1, m2, m3, m4⟩ := BX.out wc hgq
          go_simp
          exact ⟨_, rfl, { siz := h.siz, kp := h.kp, gro := fun hk => absurd (dn_self hi) hk, own := fun hk => absurd (dn_up d8) hk, k1 := h.k1, k2 := h.k2, k5 := h.k5, k6 := h.k6, p0 := fun hj => h.p0 (dn_of hi hj (by decide)), p1 := fun hj => h.p1 (dn_of hi hj (by decide)), p2 := fun hj => h.p2 (dn_of hi hj (by decide)), p3 := fun hj => h.p3 (dn_of hi hj (by decide)), p4 := fun hj => h.p4 (dn_of hi hj (by decide)), p5 := fun hj => h.p5 (dn_of hi hj (by decide)), p9 := fun hj => h.p9 (dn_of hi hj (by decide)), p6 := fun _ hk => absurd (dn_up d8) hk, l1 := fun hj => dn_up (h.l1 (dn_of hi hj (by decide))), l5 := fun hj => (fun q => ⟨dn_up q.1, dn_up q.2⟩) (h.l5 (dn_of hi hj (by decide))), l6 := fun hj => (fun q => ⟨dn_up q.1, dn_up q.2⟩) (h.l6 (dn_of hi hj (by decide))), l7 := fun hj => dn_up (h.l7 (dn_of hi hj (by decide))), p8 := fun _ hk => absurd (dn_self hi) hk, l8 := fun hj j hjj => dn_up (h.l8 (dn_of hi hj (by decide)) j hjj), l10 := fun _ j hjj => dn_up (by by_cases q : j < 8; exact h.l8 d8 j q; by_cases q8 : j = 8; (subst q8; exact d8); (have q9 : j = 9 := by omega); subst q9; exact d9), p10 := fun _ => ⟨A8, c8, _, hgq, hT, rfl⟩ }⟩
    · have hnx := fun ty => Lib.run_next_end_at (P := Tryz.prog) wr (w.heap.size + 3) s k ty hb3' hlt
      have HKN : Hid (k = s.size) := Lib.hid (by omega)
      obtain ⟨Av, cv, hv⟩ := hot.form
      subst hv
      have t0 : wr.cell? ⟨w.heap.size + 2, 0, none⟩ = some (.slice A0 x.entries.length c0) := by simp [World.cell?, hb2']
      have t1 : wr.cell? ⟨w.heap.size + 2, 1, none⟩ = some (.slice A1 x.endings.length c1) := by simp [World.cell?, hb2']
      have t2 : wr.cell? ⟨w.heap.size + 2, 2, none⟩ = some (.slice A2 x.clitics.length c2) := by simp [World.cell?, hb2']
      have t3 : wr.cell? ⟨w.heap.size + 2, 3, none⟩ = some (.slice Av (Lx.beginTo x s k).length cv) := by simp [World.cell?, hb2']
      have t4 : wr.cell? ⟨w.heap.size + 2, 4, none⟩ = some (.int .i64 s.size) := by simp [World.cell?, hb2']
      have r0 : wr.cell? ⟨w.heap.size + 1, 0, none⟩ = some (.slice none 0 0) := by simp [World.cell?, hb1']
      have r1 : wr.cell? ⟨w.heap.size + 1, 1, none⟩ = some (.slice none 0 0) := by simp [World.cell?, hb1']
      have r2 : wr.cell? ⟨w.heap.size + 1, 2, none⟩ = some (.slice none 0 0) := by simp [World.cell?, hb1']
      have r3 : wr.cell? ⟨w.heap.size + 1, 3, none⟩ = some (.slice none 0 0) := by simp [World.cell?, hb1']
      have r4 : wr.cell? ⟨w.heap.size + 1, 4, none⟩ = some (.int .i64 0) := by simp [World.cell?, hb1']
      have z0 : wr.frozen? ⟨w.heap.size + 1, 0, none⟩ = false := by simp [World.frozen?, hb1']
      have z1 : wr.frozen? ⟨w.heap.size + 1, 1, none⟩ = false := by simp [World.frozen?, hb1']
      have z2 : wr.frozen? ⟨w.heap.size + 1, 2, none⟩ = false := by simp [World.frozen?, hb1']
      have z3 : wr.frozen? ⟨w.heap.size + 1, 3, none⟩ = false := by simp [World.frozen?, hb1']
      have z4 : wr.frozen? ⟨w.heap.size + 1, 4, none⟩ = false := by simp [World.frozen?, hb1']
      clear hot hbel hb0' hb1' hb2' hb3'
      go_wp2_with fail
      refine bodyPost_ret (v := .agg #[.slice A0 x.entries.length c0, .slice A1 x.endings.length c1, .slice A2 x.clitics.length c2, .slice Av (Lx.beginTo x s k).length cv, .int .i64 s.size]) (by simp [results, Tryz.results46, go_sem, r0, r1, r2, r3, r4]) rfl ⟨_, _, _, _, rfl, rfl, ?_, ?_⟩
      · have hot := HOT.out
        have e : Lx.beginV x s = Lx.beginTo x s k := by rw [HKN.out]; rfl
        rw [e]
        exact (((((hot.aside (grown_setCell _ _ _ _) (by omega)).aside (grown_setCell _ _ _ _) (by omega)).aside (grown_setCell _ _ _ _) (by omega)).aside (grown_setCell _ _ _ _) (by omega)).aside (grown_setCell _ _ _ _) (by omega)).mono (by omega)
      · exact ((((HBEL.out.setCell (by simp) _).setCell (by simp) _).setCell (by simp) _).setCell (by simp) _).setCell (by simp) _
end Go.Proofs.YtpmnpnlfgfleeaaGreatDoor
