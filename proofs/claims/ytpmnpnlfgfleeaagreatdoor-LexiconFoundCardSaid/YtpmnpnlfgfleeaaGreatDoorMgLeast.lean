/- The closure of Least, slices.MinFunc with it, lexicon.Least, ostraconref05.Least. Made by gen_least.py. -/
import Derived.Test.YtpmnpnlfgfleeaaGreatDoorMgWithF
import Derived.Test.YtpmnpnlfgfleeaaGreatDoorMgCutsFine
import Derived.Test.YtpmnpnlfgfleeaaGreatDoorMgWeight
import Derived.Test.YtpmnpnlfgfleeaaGreatDoorMgSounds
import Derived.Test.YtpmnpnlfgfleeaaGreatDoorMgRegion4
import Derived.Test.YtpmnpnlfgfleeaaGreatDoorMgFormX
namespace Go.Proofs.YtpmnpnlfgfleeaaGreatDoor
open Go.RowKit

structure L1R (T0 : Array Value) (W0 : World) (xv sa sb : Value) (bx ba bb : Nat) (fa fb : Lx.Form) (ha hb : Int) (d : Array Bool) (t : Array Value) (wc : World) : Prop where
  bel : Below W0.heap.size W0 wc
  siz : t.size = 13
  kp : ∀ i, i ∉ ([5, 6, 7, 8, 9, 10, 11, 12] : List Nat) → t[i]? = T0[i]?
  k2 : t[2]? = some (.pointer (some ⟨bx, 0, none⟩))
  k3 : t[3]? = some (.pointer (some ⟨ba, 0, none⟩))
  k4 : t[4]? = some (.pointer (some ⟨bb, 0, none⟩))
  p0 : dn d 0 → t[6]? = some (xv)
  p1 : dn d 1 → t[7]? = some ((.agg #[.int .i64 fa.entry, .int .i64 fa.ending, sa]))
  p2 : dn d 2 → t[8]? = some (.int .i64 ha)
  p3 : dn d 3 → t[9]? = some (xv)
  p4 : dn d 4 → t[10]? = some ((.agg #[.int .i64 fb.entry, .int .i64 fb.ending, sb]))
  p5 : dn d 5 → t[11]? = some (.int .i64 hb)
  p6 : dn d 6 → t[12]? = some (.int .i64 (Lib.compareInt ha hb))
  p7 : dn d 7 → t[5]? = some (.int .i64 (Lib.compareInt ha hb))
def L1I (T0 : Array Value) (W0 : World) (xv sa sb : Value) (bx ba bb : Nat) (fa fb : Lx.Form) (ha hb : Int) (d : Array Bool) (a : Act) (wc : World) : Prop := ∃ t : Array Value, a = ⟨t, []⟩ ∧ L1R T0 W0 xv sa sb bx ba bb fa fb ha hb d t wc
structure MfR (T0 : Array Value) (W0 : World) (cap : Value) (b1 o1 n c0 k bb : Nat) (f m : Lx.Form) (sf sm : Value) (q : Int) (d : Array Bool) (t : Array Value) (wc : World) : Prop where
  bel : Below W0.heap.size W0 wc
  siz : t.size = 33
  kp : ∀ i, i ∉ ([20, 21, 22, 23, 24, 25, 26, 27] : List Nat) → t[i]? = T0[i]?
  k0 : t[0]? = some (.slice (some ⟨b1, o1, none⟩) n c0)
  k1 : t[1]? = some (.func (.func 44) #[] #[cap])
  k5 : t[5]? = some (.pointer (some ⟨bb, 0, none⟩))
  k6 : t[6]? = some (.int .i64 (k : Int))
  p0 : dn d 0 → t[20]? = some (.func (.func 44) #[] #[cap])
  p1 : dn d 1 → t[21]? = some (.slice (some ⟨b1, o1, none⟩) n c0)
  p2 : dn d 2 → t[22]? = some (.int .i64 (k : Int))
  p3 : dn d 3 → t[23]? = some (.pointer (some ⟨b1, o1 + k * 3, none⟩))
  p4 : dn d 4 → t[24]? = some ((.agg #[.int .i64 f.entry, .int .i64 f.ending, sf]))
  p5 : dn d 5 → t[25]? = some ((.agg #[.int .i64 m.entry, .int .i64 m.ending, sm]))
  p6 : dn d 6 → t[26]? = some (.int .i64 q)
  p7 : dn d 7 → t[27]? = some (.bool (decide (q < 0)))
def MfI (T0 : Array Value) (W0 : World) (cap : Value) (b1 o1 n c0 k bb : Nat) (f m : Lx.Form) (sf sm : Value) (q : Int) (d : Array Bool) (a : Act) (wc : World) : Prop := ∃ t : Array Value, a = ⟨t, []⟩ ∧ MfR T0 W0 cap b1 o1 n c0 k bb f m sf sm q d t wc

set_option maxRecDepth 100000 in
set_option maxHeartbeats 4000000 in
theorem Least1_any (va vb : Value) (a b : Lx.Form) (x : Lx.Lexicon) (bx : Nat) (vx : Value) (w : World) (hr : RdL w w.heap.size vx x) (hbx : ∃ v0 v1 v2, vx = .agg #[v0, v1, v2] ∧ w.heap[bx]? = some (.cells #[v0, v1, v2] 26 (0, 0)))
    (ha : RdF w w.heap.size va a) (hb : RdF w w.heap.size vb b) (hchk : Lx.checkV x = 0) (hfa : Lx.FitsC x a) (hfb : Lx.FitsC x b) :
    Calls Tryz.prog 44 #[va, vb, .pointer (some ⟨bx, 0, none⟩)] w (RetIB (Lib.compareInt (Lx.heavyV x a) (Lx.heavyV x b)) w) := by
  have HWA0 : Hid (∀ W : World, Below w.heap.size w W → Calls Tryz.prog 31 #[vx, va] W (RetIB (Lx.heavyV x a) W)) := Lib.hid fun W hW => weight_any vx va x a W ((hr.below hW).more hW.size) (rdf_keep' hW ha) hchk hfa
  have HWB0 : Hid (∀ W : World, Below w.heap.size w W → Calls Tryz.prog 31 #[vx, vb] W (RetIB (Lx.heavyV x b) W)) := Lib.hid fun W hW => weight_any vx vb x b W ((hr.below hW).more hW.size) (rdf_keep' hW hb) hchk hfb
  obtain ⟨⟨v0, v1, v2, rfl, ⟨A0, c0, rfl, -⟩, ⟨A1, c1, rfl, -⟩, ⟨A2, c2, rfl, -⟩⟩, -, -, -⟩ := hr
  obtain ⟨_, _, _, e, hbx⟩ := hbx
  cases e
  obtain ⟨⟨sa, rfl, ⟨A3, c3, rfl, -, -, -⟩⟩⟩ := ha
  obtain ⟨⟨sb, rfl, ⟨A4, c4, rfl, -, -, -⟩⟩⟩ := hb
  have hbxl : bx < w.heap.size := by
    rcases Nat.lt_or_ge bx w.heap.size with h | h
    · exact h
    · rw [Array.getElem?_eq_none h] at hbx; cases hbx
  obtain ⟨W2, hW2⟩ : ∃ W2, W2 = (w.alloc (.cells #[.int .i64 a.entry, .int .i64 a.ending, .slice A3 a.clitics.length c3] 29)).alloc (.cells #[.int .i64 b.entry, .int .i64 b.ending, .slice A4 b.clitics.length c4] 29) := ⟨_, rfl⟩
  have hbw : Below w.heap.size w W2 := by rw [hW2]; exact ((Below.refl _ _).alloc (Nat.le_refl _) _).alloc (by simp) _
  have HBW := Lib.hid hbw
  have hsz : W2.heap.size = w.heap.size + 2 := by rw [hW2]; simp
  have hfa2 : W2.heap[w.heap.size]? = some (.cells #[.int .i64 a.entry, .int .i64 a.ending, .slice A3 a.clitics.length c3] 29 (0, 0)) := by rw [hW2]; exact start_fst w _ _
  have hfb2 : W2.heap[w.heap.size + 1]? = some (.cells #[.int .i64 b.entry, .int .i64 b.ending, .slice A4 b.clitics.length c4] 29 (0, 0)) := by rw [hW2]; exact start_res2 w _ _
  have CX : Hid (∀ W : World, Below W2.heap.size W2 W → W.cell? ⟨bx, 0, none⟩ = some (.slice A0 x.entries.length c0) ∧ W.cell? ⟨bx, 1, none⟩ = some (.slice A1 x.endings.length c1) ∧ W.cell? ⟨bx, 2, none⟩ = some (.slice A2 x.clitics.length c2) ∧
      W.cell? ⟨w.heap.size, 0, none⟩ = some (.int .i64 a.entry) ∧ W.cell? ⟨w.heap.size, 1, none⟩ = some (.int .i64 a.ending) ∧ W.cell? ⟨w.heap.size, 2, none⟩ = some (.slice A3 a.clitics.length c3) ∧
      W.cell? ⟨w.heap.size + 1, 0, none⟩ = some (.int .i64 b.entry) ∧ W.cell? ⟨w.heap.size + 1, 1, none⟩ = some (.int .i64 b.ending) ∧ W.cell? ⟨w.heap.size + 1, 2, none⟩ = some (.slice A4 b.clitics.length c4)) := Lib.hid fun W hW => by
    have o := (hW.block bx (by omega)).trans ((hbw.block bx hbxl).trans hbx)
    have p := (hW.block w.heap.size (by omega)).trans hfa2
    have q := (hW.block (w.heap.size + 1) (by omega)).trans hfb2
    exact ⟨by simp [World.cell?, o], by simp [World.cell?, o], by simp [World.cell?, o], by simp [World.cell?, p], by simp [World.cell?, p], by simp [World.cell?, p], by simp [World.cell?, q], by simp [World.cell?, q], by simp [World.cell?, q]⟩
  have HWA := Lib.hid (fun (W : World) (hW : Below W2.heap.size W2 W) => HWA0.out W (hbw.trans (hW.mono hbw.size)))
  have HWB := Lib.hid (fun (W : World) (hW : Below W2.heap.size W2 W) => HWB0.out W (hbw.trans (hW.mono hbw.size)))
  have HW2 := Lib.hid hW2
  clear hbw hsz hfa2 hfb2 hW2 HWA0 HWB0 hchk hfa hfb hbx
  go_enter Tryz.func44, Tryz.ntmps44
  go_wp2_with fail
  rw [← HW2.out]
  refine wp_region_inv2T (fun T0 => L1I T0 W2 (.agg #[.slice A0 x.entries.length c0, .slice A1 x.endings.length c1, .slice A2 x.clitics.length c2]) (.slice A3 a.clitics.length c3) (.slice A4 b.clitics.length c4) bx w.heap.size (w.heap.size + 1) a b (Lx.heavyV x a) (Lx.heavyV x b)) (by kernel_rfl) (by kernel_rfl) ?g0 ?gstep ?gend
  case g0 =>
    have hno : ∀ j, ¬ dn (Array.replicate 8 false) j := by
      intro j; unfold dn; by_cases hj : j < 8 <;> simp [Array.getD, hj]
    exact ⟨_, rfl, { bel := (Below.refl _ _).drew, siz := rfl, kp := fun _ _ => rfl, k2 := rfl, k3 := rfl, k4 := rfl, p0 := fun hj => absurd hj (hno _), p1 := fun hj => absurd hj (hno _), p2 := fun hj => absurd hj (hno _), p3 := fun hj => absurd hj (hno _), p4 := fun hj => absurd hj (hno _), p5 := fun hj => absurd hj (hno _), p6 := fun hj => absurd hj (hno _), p7 := fun hj => absurd hj (hno _) }⟩
  case gstep =>
    intro T0 d a wc i hd hI hi
    obtain ⟨hlt, hnd, hpre⟩ := mem_ready hi
    have hd' : d.size = 8 := hd
    have hin : i < 8 := hlt
    clear hi hd hlt
    obtain ⟨t, rfl, h⟩ := hI
    have hcs : i = 0 ∨ i = 1 ∨ i = 2 ∨ i = 3 ∨ i = 4 ∨ i = 5 ∨ i = 6 ∨ i = 7 := by omega
    rcases hcs with rfl | rfl | rfl | rfl | rfl | rfl | rfl | rfl
    · have hi : 0 < d.size := by omega
      have q2 := h.k2
      obtain ⟨m0, m1, m2, m3, m4, m5, m6, m7, m8⟩ := CX.out wc h.bel
      refine wpOp_plain rfl rfl ?_
      go_simp
      exact ⟨_, rfl, { bel := h.bel, siz := (by simpa using h.siz), kp := fun i hi' => (set_other (fun e => hi' (by subst e; decide))).trans (h.kp i hi'), k2 := (set_other (by decide)).trans h.k2, k3 := (set_other (by decide)).trans h.k3, k4 := (set_other (by decide)).trans h.k4, p0 := fun _ => set_same (by have := h.siz; omega), p1 := fun hj => (set_other (by decide)).trans (h.p1 (dn_of hi hj (by decide))), p2 := fun hj => (set_other (by decide)).trans (h.p2 (dn_of hi hj (by decide))), p3 := fun hj => (set_other (by decide)).trans (h.p3 (dn_of hi hj (by decide))), p4 := fun hj => (set_other (by decide)).trans (h.p4 (dn_of hi hj (by decide))), p5 := fun hj => (set_other (by decide)).trans (h.p5 (dn_of hi hj (by decide))), p6 := fun hj => (set_other (by decide)).trans (h.p6 (dn_of hi hj (by decide))), p7 := fun hj => (set_other (by decide)).trans (h.p7 (dn_of hi hj (by decide))) }⟩
    · have hi : 1 < d.size := by omega
      have q3 := h.k3
      obtain ⟨m0, m1, m2, m3, m4, m5, m6, m7, m8⟩ := CX.out wc h.bel
      refine wpOp_plain rfl rfl ?_
      go_simp
      exact ⟨_, rfl, { bel := h.bel, siz := (by simpa using h.siz), kp := fun i hi' => (set_other (fun e => hi' (by subst e; decide))).trans (h.kp i hi'), k2 := (set_other (by decide)).trans h.k2, k3 := (set_other (by decide)).trans h.k3, k4 := (set_other (by decide)).trans h.k4, p0 := fun hj => (set_other (by decide)).trans (h.p0 (dn_of hi hj (by decide))), p1 := fun _ => set_same (by have := h.siz; omega), p2 := fun hj => (set_other (by decide)).trans (h.p2 (dn_of hi hj (by decide))), p3 := fun hj => (set_other (by decide)).trans (h.p3 (dn_of hi hj (by decide))), p4 := fun hj => (set_other (by decide)).trans (h.p4 (dn_of hi hj (by decide))), p5 := fun hj => (set_other (by decide)).trans (h.p5 (dn_of hi hj (by decide))), p6 := fun hj => (set_other (by decide)).trans (h.p6 (dn_of hi hj (by decide))), p7 := fun hj => (set_other (by decide)).trans (h.p7 (dn_of hi hj (by decide))) }⟩
    · have hi : 2 < d.size := by omega
      have e0 := h.p0 (hpre _ rfl ⟨0, .data⟩ (by simp) rfl)
      have e1 := h.p1 (hpre _ rfl ⟨1, .data⟩ (by simp) rfl)
      refine wpOp_plain rfl rfl ?_
      go_simp
      refine (HWA.out wc h.bel).mono ?_
      rintro e1 w1 ⟨rfl, hb⟩
      exact ⟨_, rfl, { bel := h.bel.trans (hb.mono h.bel.size), siz := (by simpa using h.siz), kp := fun i hi' => (set_other (fun e => hi' (by subst e; decide))).trans (h.kp i hi'), k2 := (set_other (by decide)).trans h.k2, k3 := (set_other (by decide)).trans h.k3, k4 := (set_other (by decide)).trans h.k4, p0 := fun hj => (set_other (by decide)).trans (h.p0 (dn_of hi hj (by decide))), p1 := fun hj => (set_other (by decide)).trans (h.p1 (dn_of hi hj (by decide))), p2 := fun _ => set_same (by have := h.siz; omega), p3 := fun hj => (set_other (by decide)).trans (h.p3 (dn_of hi hj (by decide))), p4 := fun hj => (set_other (by decide)).trans (h.p4 (dn_of hi hj (by decide))), p5 := fun hj => (set_other (by decide)).trans (h.p5 (dn_of hi hj (by decide))), p6 := fun hj => (set_other (by decide)).trans (h.p6 (dn_of hi hj (by decide))), p7 := fun hj => (set_other (by decide)).trans (h.p7 (dn_of hi hj (by decide))) }⟩
    · have hi : 3 < d.size := by omega
      have q2 := h.k2
      obtain ⟨m0, m1, m2, m3, m4, m5, m6, m7, m8⟩ := CX.out wc h.bel
      refine wpOp_plain rfl rfl ?_
      go_simp
      exact ⟨_, rfl, { bel := h.bel, siz := (by simpa using h.siz), kp := fun i hi' => (set_other (fun e => hi' (by subst e; decide))).trans (h.kp i hi'), k2 := (set_other (by decide)).trans h.k2, k3 := (set_other (by decide)).trans h.k3, k4 := (set_other (by decide)).trans h.k4, p0 := fun hj => (set_other (by decide)).trans (h.p0 (dn_of hi hj (by decide))), p1 := fun hj => (set_other (by decide)).trans (h.p1 (dn_of hi hj (by decide))), p2 := fun hj => (set_other (by decide)).trans (h.p2 (dn_of hi hj (by decide))), p3 := fun _ => set_same (by have := h.siz; omega), p4 := fun hj => (set_other (by decide)).trans (h.p4 (dn_of hi hj (by decide))), p5 := fun hj => (set_other (by decide)).trans (h.p5 (dn_of hi hj (by decide))), p6 := fun hj => (set_other (by decide)).trans (h.p6 (dn_of hi hj (by decide))), p7 := fun hj => (set_other (by decide)).trans (h.p7 (dn_of hi hj (by decide))) }⟩
    · have hi : 4 < d.size := by omega
      have q4 := h.k4
      obtain ⟨m0, m1, m2, m3, m4, m5, m6, m7, m8⟩ := CX.out wc h.bel
      refine wpOp_plain rfl rfl ?_
      go_simp
      exact ⟨_, rfl, { bel := h.bel, siz := (by simpa using h.siz), kp := fun i hi' => (set_other (fun e => hi' (by subst e; decide))).trans (h.kp i hi'), k2 := (set_other (by decide)).trans h.k2, k3 := (set_other (by decide)).trans h.k3, k4 := (set_other (by decide)).trans h.k4, p0 := fun hj => (set_other (by decide)).trans (h.p0 (dn_of hi hj (by decide))), p1 := fun hj => (set_other (by decide)).trans (h.p1 (dn_of hi hj (by decide))), p2 := fun hj => (set_other (by decide)).trans (h.p2 (dn_of hi hj (by decide))), p3 := fun hj => (set_other (by decide)).trans (h.p3 (dn_of hi hj (by decide))), p4 := fun _ => set_same (by have := h.siz; omega), p5 := fun hj => (set_other (by decide)).trans (h.p5 (dn_of hi hj (by decide))), p6 := fun hj => (set_other (by decide)).trans (h.p6 (dn_of hi hj (by decide))), p7 := fun hj => (set_other (by decide)).trans (h.p7 (dn_of hi hj (by decide))) }⟩
    · have hi : 5 < d.size := by omega
      have e3 := h.p3 (hpre _ rfl ⟨3, .data⟩ (by simp) rfl)
      have e4 := h.p4 (hpre _ rfl ⟨4, .data⟩ (by simp) rfl)
      refine wpOp_plain rfl rfl ?_
      go_simp
      refine (HWB.out wc h.bel).mono ?_
      rintro e1 w1 ⟨rfl, hb⟩
      exact ⟨_, rfl, { bel := h.bel.trans (hb.mono h.bel.size), siz := (by simpa using h.siz), kp := fun i hi' => (set_other (fun e => hi' (by subst e; decide))).trans (h.kp i hi'), k2 := (set_other (by decide)).trans h.k2, k3 := (set_other (by decide)).trans h.k3, k4 := (set_other (by decide)).trans h.k4, p0 := fun hj => (set_other (by decide)).trans (h.p0 (dn_of hi hj (by decide))), p1 := fun hj => (set_other (by decide)).trans (h.p1 (dn_of hi hj (by decide))), p2 := fun hj => (set_other (by decide)).trans (h.p2 (dn_of hi hj (by decide))), p3 := fun hj => (set_other (by decide)).trans (h.p3 (dn_of hi hj (by decide))), p4 := fun hj => (set_other (by decide)).trans (h.p4 (dn_of hi hj (by decide))), p5 := fun _ => set_same (by have := h.siz; omega), p6 := fun hj => (set_other (by decide)).trans (h.p6 (dn_of hi hj (by decide))), p7 := fun hj => (set_other (by decide)).trans (h.p7 (dn_of hi hj (by decide))) }⟩
    · have hi : 6 < d.size := by omega
      have e2 := h.p2 (hpre _ rfl ⟨2, .data⟩ (by simp) rfl)
      have e5 := h.p5 (hpre _ rfl ⟨5, .data⟩ (by simp) rfl)
      refine wpOp_plain rfl rfl ?_
      go_simp
      refine (Tryz.cmp_Compare_int (Lx.heavyV x a) (Lx.heavyV x b) wc).mono ?_
      rintro e1 w1 ⟨rfl, rfl⟩
      exact ⟨_, rfl, { bel := h.bel, siz := (by simpa using h.siz), kp := fun i hi' => (set_other (fun e => hi' (by subst e; decide))).trans (h.kp i hi'), k2 := (set_other (by decide)).trans h.k2, k3 := (set_other (by decide)).trans h.k3, k4 := (set_other (by decide)).trans h.k4, p0 := fun hj => (set_other (by decide)).trans (h.p0 (dn_of hi hj (by decide))), p1 := fun hj => (set_other (by decide)).trans (h.p1 (dn_of hi hj (by decide))), p2 := fun hj => (set_other (by decide)).trans (h.p2 (dn_of hi hj (by decide))), p3 := fun hj => (set_other (by decide)).trans (h.p3 (dn_of hi hj (by decide))), p4 := fun hj => (set_other (by decide)).trans (h.p4 (dn_of hi hj (by decide))), p5 := fun hj => (set_other (by decide)).trans (h.p5 (dn_of hi hj (by decide))), p6 := fun _ => set_same (by have := h.siz; omega), p7 := fun hj => (set_other (by decide)).trans (h.p7 (dn_of hi hj (by decide))) }⟩
    · have hi : 7 < d.size := by omega
      have e6 := h.p6 (hpre _ rfl ⟨6, .data⟩ (by simp) rfl)
      refine wpOp_plain rfl rfl ?_
      go_simp
      exact ⟨_, rfl, { bel := h.bel, siz := (by simpa using h.siz), kp := fun i hi' => (set_other (fun e => hi' (by subst e; decide))).trans (h.kp i hi'), k2 := (set_other (by decide)).trans h.k2, k3 := (set_other (by decide)).trans h.k3, k4 := (set_other (by decide)).trans h.k4, p0 := fun hj => (set_other (by decide)).trans (h.p0 (dn_of hi hj (by decide))), p1 := fun hj => (set_other (by decide)).trans (h.p1 (dn_of hi hj (by decide))), p2 := fun hj => (set_other (by decide)).trans (h.p2 (dn_of hi hj (by decide))), p3 := fun hj => (set_other (by decide)).trans (h.p3 (dn_of hi hj (by decide))), p4 := fun hj => (set_other (by decide)).trans (h.p4 (dn_of hi hj (by decide))), p5 := fun hj => (set_other (by decide)).trans (h.p5 (dn_of hi hj (by decide))), p6 := fun hj => (set_other (by decide)).trans (h.p6 (dn_of hi hj (by decide))), p7 := fun _ => set_same (by have := h.siz; omega) }⟩
  case gend =>
    intro d a wc hd hI hall
    obtain ⟨t, rfl, h⟩ := hI
    have hdn : ∀ j, j < 8 → dn d j := fun j hj => dn_all hd hall hj
    have hl : t.toList.length = 13 := h.siz
    obtain ⟨l⟩ := t
    simp only [] at hl
    obtain ⟨t0, l, rfl⟩ := List.exists_cons_of_length_eq_add_one (n := 12) hl; replace hl : l.length = 12 := (by simpa using hl)
    obtain ⟨t1, l, rfl⟩ := List.exists_cons_of_length_eq_add_one (n := 11) hl; replace hl : l.length = 11 := (by simpa using hl)
    obtain ⟨t2, l, rfl⟩ := List.exists_cons_of_length_eq_add_one (n := 10) hl; replace hl : l.length = 10 := (by simpa using hl)
    obtain ⟨t3, l, rfl⟩ := List.exists_cons_of_length_eq_add_one (n := 9) hl; replace hl : l.length = 9 := (by simpa using hl)
    obtain ⟨t4, l, rfl⟩ := List.exists_cons_of_length_eq_add_one (n := 8) hl; replace hl : l.length = 8 := (by simpa using hl)
    obtain ⟨t5, l, rfl⟩ := List.exists_cons_of_length_eq_add_one (n := 7) hl; replace hl : l.length = 7 := (by simpa using hl)
    obtain ⟨t6, l, rfl⟩ := List.exists_cons_of_length_eq_add_one (n := 6) hl; replace hl : l.length = 6 := (by simpa using hl)
    obtain ⟨t7, l, rfl⟩ := List.exists_cons_of_length_eq_add_one (n := 5) hl; replace hl : l.length = 5 := (by simpa using hl)
    obtain ⟨t8, l, rfl⟩ := List.exists_cons_of_length_eq_add_one (n := 4) hl; replace hl : l.length = 4 := (by simpa using hl)
    obtain ⟨t9, l, rfl⟩ := List.exists_cons_of_length_eq_add_one (n := 3) hl; replace hl : l.length = 3 := (by simpa using hl)
    obtain ⟨t10, l, rfl⟩ := List.exists_cons_of_length_eq_add_one (n := 2) hl; replace hl : l.length = 2 := (by simpa using hl)
    obtain ⟨t11, l, rfl⟩ := List.exists_cons_of_length_eq_add_one (n := 1) hl; replace hl : l.length = 1 := (by simpa using hl)
    obtain ⟨t12, l, rfl⟩ := List.exists_cons_of_length_eq_add_one (n := 0) hl; replace hl : l.length = 0 := (by simpa using hl)
    obtain rfl := List.eq_nil_of_length_eq_zero hl
    clear hl
    have e := h.kp 0 (by decide); simp only [List.getElem?_toArray, List.getElem?_cons_zero, Option.some.injEq] at e; subst e
    have e := h.kp 1 (by decide); simp only [List.getElem?_toArray, List.getElem?_cons_succ, List.getElem?_cons_zero, Option.some.injEq] at e; subst e
    have e := h.kp 2 (by decide); simp only [List.getElem?_toArray, List.getElem?_cons_succ, List.getElem?_cons_zero, Option.some.injEq] at e; subst e
    have e := h.kp 3 (by decide); simp only [List.getElem?_toArray, List.getElem?_cons_succ, List.getElem?_cons_zero, Option.some.injEq] at e; subst e
    have e := h.kp 4 (by decide); simp only [List.getElem?_toArray, List.getElem?_cons_succ, List.getElem?_cons_zero, Option.some.injEq] at e; subst e
    have e := h.p7 (hdn 7 (by omega)); simp only [List.getElem?_toArray, List.getElem?_cons_succ, List.getElem?_cons_zero, Option.some.injEq] at e; subst e
    have e := h.p0 (hdn 0 (by omega)); simp only [List.getElem?_toArray, List.getElem?_cons_succ, List.getElem?_cons_zero, Option.some.injEq] at e; subst e
    have e := h.p1 (hdn 1 (by omega)); simp only [List.getElem?_toArray, List.getElem?_cons_succ, List.getElem?_cons_zero, Option.some.injEq] at e; subst e
    have e := h.p2 (hdn 2 (by omega)); simp only [List.getElem?_toArray, List.getElem?_cons_succ, List.getElem?_cons_zero, Option.some.injEq] at e; subst e
    have e := h.p3 (hdn 3 (by omega)); simp only [List.getElem?_toArray, List.getElem?_cons_succ, List.getElem?_cons_zero, Option.some.injEq] at e; subst e
    have e := h.p4 (hdn 4 (by omega)); simp only [List.getElem?_toArray, List.getElem?_cons_succ, List.getElem?_cons_zero, Option.some.injEq] at e; subst e
    have e := h.p5 (hdn 5 (by omega)); simp only [List.getElem?_toArray, List.getElem?_cons_succ, List.getElem?_cons_zero, Option.some.injEq] at e; subst e
    have e := h.p6 (hdn 6 (by omega)); simp only [List.getElem?_toArray, List.getElem?_cons_succ, List.getElem?_cons_zero, Option.some.injEq] at e; subst e
    have hbc := h.bel
    clear h hdn hall
    go_wp2_with fail
    go_ret
    exact ⟨rfl, HBW.out.trans (hbc.mono HBW.out.size)⟩

theorem compare_lt (a b : Int) : decide (Lib.compareInt a b < 0) = decide (a < b) := by
  unfold Lib.compareInt
  by_cases h : a < b
  · simp [h]
  · simp only [h, if_false]
    split <;> simp
theorem Lx.least_none {x : Lx.Lexicon} {f0 : Lx.Form} {r : List Lx.Form} {k : Nat} (h1 : 1 ≤ k) (hk : k = (f0 :: r).length) : Lx.leastL x f0 (r.take (k - 1)) = Lx.leastL x f0 r := by
  rw [List.take_of_length_le]
  simp at hk
  omega

set_option maxRecDepth 100000 in
set_option maxHeartbeats 4000000 in
theorem minFunc_any (cap : Value) (x : Lx.Lexicon) (l : List Lx.Form) (f0 : Lx.Form) (r : List Lx.Form) (hl : l = f0 :: r) (v : Value) (w : World) (ok : Nat → Prop) (hok : ∀ b, ok b → b < w.heap.size) (hv : RdG KForm w ok v l)
    (hcall : ∀ (W : World) (a b : Lx.Form) (va vb : Value), a ∈ l → b ∈ l → Below w.heap.size w W → RdF W W.heap.size va a → RdF W W.heap.size vb b → Calls Tryz.prog 44 #[va, vb, cap] W (RetIB (Lib.compareInt (Lx.heavyV x a) (Lx.heavyV x b)) W)) :
    Calls Tryz.prog 43 #[v, .func (.func 44) #[] #[cap]] w (fun e w' => ∃ v', e = .returned v' ∧ FormX w' ok v' (Lx.leastL x f0 r) ∧ Below w.heap.size w w') := by
  have HCALL := Lib.hid hcall
  have HOK := Lib.hid hok
  have HL := Lib.hid hl
  have HV : Hid (∀ W : World, Below w.heap.size w W → RdG KForm W ok v l) := Lib.hid fun W hW => hv.keep fun b hb => ⟨hb, hW.block b (hok b hb)⟩
  have hl1 : 1 ≤ l.length := by rw [hl]; simp
  have hl1I : ¬ (l.length : Int) < 1 := by omega
  obtain ⟨A, c0, rfl, hla, hca, hat⟩ := hv
  obtain ⟨b1, o1, rfl, hb1, hc1⟩ := hat (by omega)
  have hl0 : l[0]? = some f0 := by rw [hl]; rfl
  obtain ⟨cs, ⟨s0, rfl, hr0⟩, hd0⟩ := hc1 0 f0 hl0
  have y0 : w.cell? ⟨b1, o1, none⟩ = some (.int .i64 f0.entry) := by have := hd0 0 _ rfl; simpa using this
  have y1 : w.cell? ⟨b1, o1 + 1, none⟩ = some (.int .i64 f0.ending) := by have := hd0 1 _ rfl; simpa using this
  have y2 : w.cell? ⟨b1, o1 + 2, none⟩ = some s0 := by have := hd0 2 _ rfl; simpa using this
  have hb1w : b1 < w.heap.size := hok b1 hb1
  obtain ⟨S0, k0, rfl, -⟩ := id hr0
  have HR0 := Lib.hid hr0
  have hn0 : l.length ≤ 9223372036854775807 := by omega
  clear hla hca hat hc1 hd0 hcall hok hl hr0 hl0
  go_enter Tryz.func43, Tryz.ntmps43
  go_wp2_with fail
  go_loopg [6] (l.length - 1) (fun g i wr => ∃ (k : Nat) (m : Lx.Form), 1 ≤ k ∧ k ≤ l.length ∧ g = l.length - k ∧ i = .int .i64 k ∧ m = Lx.leastL x f0 (r.take (k - 1)) ∧ Below w.heap.size w wr ∧ w.heap.size + 2 ≤ wr.heap.size ∧
    wr.heap[w.heap.size]? = some (.cells #[.int .i64 0, .int .i64 0, .slice none 0 0] 29 (0, 0)) ∧ ∃ s, wr.heap[w.heap.size + 1]? = some (.cells #[.int .i64 m.entry, .int .i64 m.ending, s] 29 (0, 0)) ∧ RdX wr ok 1 encInt s m.clitics)
  case atStart =>
    have hb0 : Below w.heap.size w ((w.alloc (.cells #[.int .i64 0, .int .i64 0, .slice none 0 0] 29)).alloc (.cells #[.int .i64 f0.entry, .int .i64 f0.ending, .slice S0 f0.clitics.length k0] 29)) := ((Below.refl _ _).alloc (Nat.le_refl _) _).alloc (by simp) _
    exact ⟨1, f0, Nat.le_refl _, hl1, rfl, rfl, rfl, hb0, by simp, start_fst _ _ _, _, start_res2 _ _ _, HR0.out.keep fun b hb => ⟨hb, hb0.block b (HOK.out b hb)⟩⟩
  case round =>
    obtain ⟨k, m, hk1, hk, rfl, rfl, hm, hbel, hsz, hres, sm, hbox, hrm⟩ := hrel
    obtain ⟨Sm, km, rfl, -⟩ := id hrm
    have HM := Lib.hid hm
    have HRM := Lib.hid hrm
    have HBEL := Lib.hid hbel
    have HRES := Lib.hid hres
    have HBOX := Lib.hid hbox
    clear hm hrm hres y0 y1 y2
    have hml : m ∈ l := by
      rw [HL.out, HM.out]
      rcases Lx.leastL_mem (x := x) (r.take (k - 1)) f0 with e | e
      · rw [e]; simp
      · exact List.mem_cons_of_mem _ (List.mem_of_mem_take e)
    by_cases hlt : k < l.length
    · have hltI : (k : Int) < (l.length : Int) := by omega
      obtain ⟨f, hf⟩ : ∃ f, l[k]? = some f := ⟨_, List.getElem?_eq_getElem hlt⟩
      have hfr : r[k - 1]? = some f := by
        rw [HL.out, show k = (k - 1) + 1 by omega] at hf
        simpa using hf
      obtain ⟨_, _, e, hc1⟩ := (HV.out wr hbel).at (by omega)
      obtain ⟨_, hc1⟩ := hc1
      cases e
      obtain ⟨cs, ⟨sf, rfl, hrf⟩, hd0⟩ := hc1 k f hf
      have y0 : wr.cell? ⟨b1, o1 + k * 3, none⟩ = some (.int .i64 f.entry) := hd0 0 _ rfl
      have y1 : wr.cell? ⟨b1, o1 + k * 3 + 1, none⟩ = some (.int .i64 f.ending) := hd0 1 _ rfl
      have y2 : wr.cell? ⟨b1, o1 + k * 3 + 2, none⟩ = some sf := hd0 2 _ rfl
      obtain ⟨Sf, kf, rfl, -⟩ := id hrf
      have HRF := Lib.hid hrf
      have hwsz := hbel.size
      have CL : Hid (∀ W : World, Below wr.heap.size wr W → W.cell? ⟨b1, o1 + k * 3, none⟩ = some (.int .i64 f.entry) ∧ W.cell? ⟨b1, o1 + k * 3 + 1, none⟩ = some (.int .i64 f.ending) ∧ W.cell? ⟨b1, o1 + k * 3 + 2, none⟩ = some (.slice Sf f.clitics.length kf) ∧
          W.cell? ⟨w.heap.size + 1, 0, none⟩ = some (.int .i64 m.entry) ∧ W.cell? ⟨w.heap.size + 1, 1, none⟩ = some (.int .i64 m.ending) ∧ W.cell? ⟨w.heap.size + 1, 2, none⟩ = some (.slice Sm m.clitics.length km)) := Lib.hid fun W hW => by
        have g1 : b1 < wr.heap.size := Nat.lt_of_lt_of_le hb1w hwsz
        have p := (hW.block (w.heap.size + 1) (by omega)).trans HBOX.out
        exact ⟨(hW.cell (p := ⟨b1, o1 + k * 3, none⟩) g1).trans y0, (hW.cell (p := ⟨b1, o1 + k * 3 + 1, none⟩) g1).trans y1, (hW.cell (p := ⟨b1, o1 + k * 3 + 2, none⟩) g1).trans y2,
          by simp [World.cell?, p], by simp [World.cell?, p], by simp [World.cell?, p]⟩
      have HCA : Hid (∀ W : World, Below wr.heap.size wr W → Calls Tryz.prog 44 #[.agg #[.int .i64 f.entry, .int .i64 f.ending, .slice Sf f.clitics.length kf], .agg #[.int .i64 m.entry, .int .i64 m.ending, .slice Sm m.clitics.length km], cap] W (RetIB (Lib.compareInt (Lx.heavyV x f) (Lx.heavyV x m)) W)) :=
        Lib.hid fun W hW => HCALL.out W f m _ _ (List.mem_of_getElem? hf) hml (HBEL.out.trans (hW.mono hwsz))
          ⟨⟨_, rfl, (HRF.out.keep (w' := W) (ok' := fun b => b < W.heap.size) (fun b hb => ⟨by have := HOK.out b hb; have := hW.size; omega, hW.block b (by have := HOK.out b hb; omega)⟩)).to (fun b hb => hb)⟩⟩
          ⟨⟨_, rfl, (HRM.out.keep (w' := W) (ok' := fun b => b < W.heap.size) (fun b hb => ⟨by have := HOK.out b hb; have := hW.size; omega, hW.block b (by have := HOK.out b hb; omega)⟩)).to (fun b hb => hb)⟩⟩
      have HFR := Lib.hid hfr
      clear hfr hf hc1 hd0 hrf hbox
      go_upto_region 7 with fail
      go_cut [27] (fun t wc => t = .bool (decide (Lib.compareInt (Lx.heavyV x f) (Lx.heavyV x m) < 0)) ∧ Below wr.heap.size wr wc)
      case first =>
        refine wp_region_inv2T (fun T0 => MfI T0 wr cap b1 o1 l.length c0 k (w.heap.size + 1) f m (.slice Sf f.clitics.length kf) (.slice Sm m.clitics.length km) (Lib.compareInt (Lx.heavyV x f) (Lx.heavyV x m))) (by kernel_rfl) (by kernel_rfl) ?g0 ?gstep ?gend
        case g0 =>
          have hno : ∀ j, ¬ dn (Array.replicate 8 false) j := by
            intro j; unfold dn; by_cases hj : j < 8 <;> simp [Array.getD, hj]
          exact ⟨_, rfl, { bel := (Below.refl _ _).drew, siz := rfl, kp := fun _ _ => rfl, k0 := rfl, k1 := rfl, k5 := rfl, k6 := rfl, p0 := fun hj => absurd hj (hno _), p1 := fun hj => absurd hj (hno _), p2 := fun hj => absurd hj (hno _), p3 := fun hj => absurd hj (hno _), p4 := fun hj => absurd hj (hno _), p5 := fun hj => absurd hj (hno _), p6 := fun hj => absurd hj (hno _), p7 := fun hj => absurd hj (hno _) }⟩
        case gstep =>
          intro T0 d a wc i hd hI hi
          obtain ⟨hlt, hnd, hpre⟩ := mem_ready hi
          have hd' : d.size = 8 := hd
          have hin : i < 8 := hlt
          clear hi hd hlt
          obtain ⟨t, rfl, h⟩ := hI
          have hcs : i = 0 ∨ i = 1 ∨ i = 2 ∨ i = 3 ∨ i = 4 ∨ i = 5 ∨ i = 6 ∨ i = 7 := by omega
          rcases hcs with rfl | rfl | rfl | rfl | rfl | rfl | rfl | rfl
          · have hi : 0 < d.size := by omega
            have q1 := h.k1
            refine wpOp_plain rfl rfl ?_
            go_simp
            exact ⟨_, rfl, { bel := h.bel, siz := (by simpa using h.siz), kp := fun i hi' => (set_other (fun e => hi' (by subst e; decide))).trans (h.kp i hi'), k0 := (set_other (by decide)).trans h.k0, k1 := (set_other (by decide)).trans h.k1, k5 := (set_other (by decide)).trans h.k5, k6 := (set_other (by decide)).trans h.k6, p0 := fun _ => set_same (by have := h.siz; omega), p1 := fun hj => (set_other (by decide)).trans (h.p1 (dn_of hi hj (by decide))), p2 := fun hj => (set_other (by decide)).trans (h.p2 (dn_of hi hj (by decide))), p3 := fun hj => (set_other (by decide)).trans (h.p3 (dn_of hi hj (by decide))), p4 := fun hj => (set_other (by decide)).trans (h.p4 (dn_of hi hj (by decide))), p5 := fun hj => (set_other (by decide)).trans (h.p5 (dn_of hi hj (by decide))), p6 := fun hj => (set_other (by decide)).trans (h.p6 (dn_of hi hj (by decide))), p7 := fun hj => (set_other (by decide)).trans (h.p7 (dn_of hi hj (by decide))) }⟩
          · have hi : 1 < d.size := by omega
            have q0 := h.k0
            refine wpOp_plain rfl rfl ?_
            go_simp
            exact ⟨_, rfl, { bel := h.bel, siz := (by simpa using h.siz), kp := fun i hi' => (set_other (fun e => hi' (by subst e; decide))).trans (h.kp i hi'), k0 := (set_other (by decide)).trans h.k0, k1 := (set_other (by decide)).trans h.k1, k5 := (set_other (by decide)).trans h.k5, k6 := (set_other (by decide)).trans h.k6, p0 := fun hj => (set_other (by decide)).trans (h.p0 (dn_of hi hj (by decide))), p1 := fun _ => set_same (by have := h.siz; omega), p2 := fun hj => (set_other (by decide)).trans (h.p2 (dn_of hi hj (by decide))), p3 := fun hj => (set_other (by decide)).trans (h.p3 (dn_of hi hj (by decide))), p4 := fun hj => (set_other (by decide)).trans (h.p4 (dn_of hi hj (by decide))), p5 := fun hj => (set_other (by decide)).trans (h.p5 (dn_of hi hj (by decide))), p6 := fun hj => (set_other (by decide)).trans (h.p6 (dn_of hi hj (by decide))), p7 := fun hj => (set_other (by decide)).trans (h.p7 (dn_of hi hj (by decide))) }⟩
          · have hi : 2 < d.size := by omega
            have q6 := h.k6
            refine wpOp_plain rfl rfl ?_
            go_simp
            exact ⟨_, rfl, { bel := h.bel, siz := (by simpa using h.siz), kp := fun i hi' => (set_other (fun e => hi' (by subst e; decide))).trans (h.kp i hi'), k0 := (set_other (by decide)).trans h.k0, k1 := (set_other (by decide)).trans h.k1, k5 := (set_other (by decide)).trans h.k5, k6 := (set_other (by decide)).trans h.k6, p0 := fun hj => (set_other (by decide)).trans (h.p0 (dn_of hi hj (by decide))), p1 := fun hj => (set_other (by decide)).trans (h.p1 (dn_of hi hj (by decide))), p2 := fun _ => set_same (by have := h.siz; omega), p3 := fun hj => (set_other (by decide)).trans (h.p3 (dn_of hi hj (by decide))), p4 := fun hj => (set_other (by decide)).trans (h.p4 (dn_of hi hj (by decide))), p5 := fun hj => (set_other (by decide)).trans (h.p5 (dn_of hi hj (by decide))), p6 := fun hj => (set_other (by decide)).trans (h.p6 (dn_of hi hj (by decide))), p7 := fun hj => (set_other (by decide)).trans (h.p7 (dn_of hi hj (by decide))) }⟩
          · have hi : 3 < d.size := by omega
            have e1 := h.p1 (hpre _ rfl ⟨1, .data⟩ (by simp) rfl)
            have e2 := h.p2 (hpre _ rfl ⟨2, .data⟩ (by simp) rfl)
            refine wpOp_plain rfl rfl ?_
            go_simp
            exact ⟨_, rfl, { bel := h.bel, siz := (by simpa using h.siz), kp := fun i hi' => (set_other (fun e => hi' (by subst e; decide))).trans (h.kp i hi'), k0 := (set_other (by decide)).trans h.k0, k1 := (set_other (by decide)).trans h.k1, k5 := (set_other (by decide)).trans h.k5, k6 := (set_other (by decide)).trans h.k6, p0 := fun hj => (set_other (by decide)).trans (h.p0 (dn_of hi hj (by decide))), p1 := fun hj => (set_other (by decide)).trans (h.p1 (dn_of hi hj (by decide))), p2 := fun hj => (set_other (by decide)).trans (h.p2 (dn_of hi hj (by decide))), p3 := fun _ => set_same (by have := h.siz; omega), p4 := fun hj => (set_other (by decide)).trans (h.p4 (dn_of hi hj (by decide))), p5 := fun hj => (set_other (by decide)).trans (h.p5 (dn_of hi hj (by decide))), p6 := fun hj => (set_other (by decide)).trans (h.p6 (dn_of hi hj (by decide))), p7 := fun hj => (set_other (by decide)).trans (h.p7 (dn_of hi hj (by decide))) }⟩
          · have hi : 4 < d.size := by omega
            have e3 := h.p3 (hpre _ rfl ⟨3, .data⟩ (by simp) rfl)
            obtain ⟨m0, m1, m2, m3, m4, m5⟩ := CL.out wc h.bel
            refine wpOp_plain rfl rfl ?_
            go_simp
            exact ⟨_, rfl, { bel := h.bel, siz := (by simpa using h.siz), kp := fun i hi' => (set_other (fun e => hi' (by subst e; decide))).trans (h.kp i hi'), k0 := (set_other (by decide)).trans h.k0, k1 := (set_other (by decide)).trans h.k1, k5 := (set_other (by decide)).trans h.k5, k6 := (set_other (by decide)).trans h.k6, p0 := fun hj => (set_other (by decide)).trans (h.p0 (dn_of hi hj (by decide))), p1 := fun hj => (set_other (by decide)).trans (h.p1 (dn_of hi hj (by decide))), p2 := fun hj => (set_other (by decide)).trans (h.p2 (dn_of hi hj (by decide))), p3 := fun hj => (set_other (by decide)).trans (h.p3 (dn_of hi hj (by decide))), p4 := fun _ => set_same (by have := h.siz; omega), p5 := fun hj => (set_other (by decide)).trans (h.p5 (dn_of hi hj (by decide))), p6 := fun hj => (set_other (by decide)).trans (h.p6 (dn_of hi hj (by decide))), p7 := fun hj => (set_other (by decide)).trans (h.p7 (dn_of hi hj (by decide))) }⟩
          · have hi : 5 < d.size := by omega
            have q5 := h.k5
            obtain ⟨m0, m1, m2, m3, m4, m5⟩ := CL.out wc h.bel
            refine wpOp_plain rfl rfl ?_
            go_simp
            exact ⟨_, rfl, { bel := h.bel, siz := (by simpa using h.siz), kp := fun i hi' => (set_other (fun e => hi' (by subst e; decide))).trans (h.kp i hi'), k0 := (set_other (by decide)).trans h.k0, k1 := (set_other (by decide)).trans h.k1, k5 := (set_other (by decide)).trans h.k5, k6 := (set_other (by decide)).trans h.k6, p0 := fun hj => (set_other (by decide)).trans (h.p0 (dn_of hi hj (by decide))), p1 := fun hj => (set_other (by decide)).trans (h.p1 (dn_of hi hj (by decide))), p2 := fun hj => (set_other (by decide)).trans (h.p2 (dn_of hi hj (by decide))), p3 := fun hj => (set_other (by decide)).trans (h.p3 (dn_of hi hj (by decide))), p4 := fun hj => (set_other (by decide)).trans (h.p4 (dn_of hi hj (by decide))), p5 := fun _ => set_same (by have := h.siz; omega), p6 := fun hj => (set_other (by decide)).trans (h.p6 (dn_of hi hj (by decide))), p7 := fun hj => (set_other (by decide)).trans (h.p7 (dn_of hi hj (by decide))) }⟩
          · have hi : 6 < d.size := by omega
            have e0 := h.p0 (hpre _ rfl ⟨0, .data⟩ (by simp) rfl)
            have e4 := h.p4 (hpre _ rfl ⟨4, .data⟩ (by simp) rfl)
            have e5 := h.p5 (hpre _ rfl ⟨5, .data⟩ (by simp) rfl)
            refine wpOp_plain rfl rfl ?_
            go_simp
            refine (HCA.out wc h.bel).mono ?_
            rintro e1 w1 ⟨rfl, hb⟩
            exact ⟨_, rfl, { bel := h.bel.trans (hb.mono h.bel.size), siz := (by simpa using h.siz), kp := fun i hi' => (set_other (fun e => hi' (by subst e; decide))).trans (h.kp i hi'), k0 := (set_other (by decide)).trans h.k0, k1 := (set_other (by decide)).trans h.k1, k5 := (set_other (by decide)).trans h.k5, k6 := (set_other (by decide)).trans h.k6, p0 := fun hj => (set_other (by decide)).trans (h.p0 (dn_of hi hj (by decide))), p1 := fun hj => (set_other (by decide)).trans (h.p1 (dn_of hi hj (by decide))), p2 := fun hj => (set_other (by decide)).trans (h.p2 (dn_of hi hj (by decide))), p3 := fun hj => (set_other (by decide)).trans (h.p3 (dn_of hi hj (by decide))), p4 := fun hj => (set_other (by decide)).trans (h.p4 (dn_of hi hj (by decide))), p5 := fun hj => (set_other (by decide)).trans (h.p5 (dn_of hi hj (by decide))), p6 := fun _ => set_same (by have := h.siz; omega), p7 := fun hj => (set_other (by decide)).trans (h.p7 (dn_of hi hj (by decide))) }⟩
          · have hi : 7 < d.size := by omega
            have e6 := h.p6 (hpre _ rfl ⟨6, .data⟩ (by simp) rfl)
            refine wpOp_plain rfl rfl ?_
            go_simp
            exact ⟨_, rfl, { bel := h.bel, siz := (by simpa using h.siz), kp := fun i hi' => (set_other (fun e => hi' (by subst e; decide))).trans (h.kp i hi'), k0 := (set_other (by decide)).trans h.k0, k1 := (set_other (by decide)).trans h.k1, k5 := (set_other (by decide)).trans h.k5, k6 := (set_other (by decide)).trans h.k6, p0 := fun hj => (set_other (by decide)).trans (h.p0 (dn_of hi hj (by decide))), p1 := fun hj => (set_other (by decide)).trans (h.p1 (dn_of hi hj (by decide))), p2 := fun hj => (set_other (by decide)).trans (h.p2 (dn_of hi hj (by decide))), p3 := fun hj => (set_other (by decide)).trans (h.p3 (dn_of hi hj (by decide))), p4 := fun hj => (set_other (by decide)).trans (h.p4 (dn_of hi hj (by decide))), p5 := fun hj => (set_other (by decide)).trans (h.p5 (dn_of hi hj (by decide))), p6 := fun hj => (set_other (by decide)).trans (h.p6 (dn_of hi hj (by decide))), p7 := fun _ => set_same (by have := h.siz; omega) }⟩
        case gend =>
          intro d a wc hd hI hall
          obtain ⟨t, rfl, h⟩ := hI
          have hdn : ∀ j, j < 8 → dn d j := fun j hj => dn_all hd hall hj
          have hl : t.toList.length = 33 := h.siz
          obtain ⟨l⟩ := t
          simp only [] at hl
          obtain ⟨t0, l, rfl⟩ := List.exists_cons_of_length_eq_add_one (n := 32) hl; replace hl : l.length = 32 := (by simpa using hl)
          obtain ⟨t1, l, rfl⟩ := List.exists_cons_of_length_eq_add_one (n := 31) hl; replace hl : l.length = 31 := (by simpa using hl)
          obtain ⟨t2, l, rfl⟩ := List.exists_cons_of_length_eq_add_one (n := 30) hl; replace hl : l.length = 30 := (by simpa using hl)
          obtain ⟨t3, l, rfl⟩ := List.exists_cons_of_length_eq_add_one (n := 29) hl; replace hl : l.length = 29 := (by simpa using hl)
          obtain ⟨t4, l, rfl⟩ := List.exists_cons_of_length_eq_add_one (n := 28) hl; replace hl : l.length = 28 := (by simpa using hl)
          obtain ⟨t5, l, rfl⟩ := List.exists_cons_of_length_eq_add_one (n := 27) hl; replace hl : l.length = 27 := (by simpa using hl)
          obtain ⟨t6, l, rfl⟩ := List.exists_cons_of_length_eq_add_one (n := 26) hl; replace hl : l.length = 26 := (by simpa using hl)
          obtain ⟨t7, l, rfl⟩ := List.exists_cons_of_length_eq_add_one (n := 25) hl; replace hl : l.length = 25 := (by simpa using hl)
          obtain ⟨t8, l, rfl⟩ := List.exists_cons_of_length_eq_add_one (n := 24) hl; replace hl : l.length = 24 := (by simpa using hl)
          obtain ⟨t9, l, rfl⟩ := List.exists_cons_of_length_eq_add_one (n := 23) hl; replace hl : l.length = 23 := (by simpa using hl)
          obtain ⟨t10, l, rfl⟩ := List.exists_cons_of_length_eq_add_one (n := 22) hl; replace hl : l.length = 22 := (by simpa using hl)
          obtain ⟨t11, l, rfl⟩ := List.exists_cons_of_length_eq_add_one (n := 21) hl; replace hl : l.length = 21 := (by simpa using hl)
          obtain ⟨t12, l, rfl⟩ := List.exists_cons_of_length_eq_add_one (n := 20) hl; replace hl : l.length = 20 := (by simpa using hl)
          obtain ⟨t13, l, rfl⟩ := List.exists_cons_of_length_eq_add_one (n := 19) hl; replace hl : l.length = 19 := (by simpa using hl)
          obtain ⟨t14, l, rfl⟩ := List.exists_cons_of_length_eq_add_one (n := 18) hl; replace hl : l.length = 18 := (by simpa using hl)
          obtain ⟨t15, l, rfl⟩ := List.exists_cons_of_length_eq_add_one (n := 17) hl; replace hl : l.length = 17 := (by simpa using hl)
          obtain ⟨t16, l, rfl⟩ := List.exists_cons_of_length_eq_add_one (n := 16) hl; replace hl : l.length = 16 := (by simpa using hl)
          obtain ⟨t17, l, rfl⟩ := List.exists_cons_of_length_eq_add_one (n := 15) hl; replace hl : l.length = 15 := (by simpa using hl)
          obtain ⟨t18, l, rfl⟩ := List.exists_cons_of_length_eq_add_one (n := 14) hl; replace hl : l.length = 14 := (by simpa using hl)
          obtain ⟨t19, l, rfl⟩ := List.exists_cons_of_length_eq_add_one (n := 13) hl; replace hl : l.length = 13 := (by simpa using hl)
          obtain ⟨t20, l, rfl⟩ := List.exists_cons_of_length_eq_add_one (n := 12) hl; replace hl : l.length = 12 := (by simpa using hl)
          obtain ⟨t21, l, rfl⟩ := List.exists_cons_of_length_eq_add_one (n := 11) hl; replace hl : l.length = 11 := (by simpa using hl)
          obtain ⟨t22, l, rfl⟩ := List.exists_cons_of_length_eq_add_one (n := 10) hl; replace hl : l.length = 10 := (by simpa using hl)
          obtain ⟨t23, l, rfl⟩ := List.exists_cons_of_length_eq_add_one (n := 9) hl; replace hl : l.length = 9 := (by simpa using hl)
          obtain ⟨t24, l, rfl⟩ := List.exists_cons_of_length_eq_add_one (n := 8) hl; replace hl : l.length = 8 := (by simpa using hl)
          obtain ⟨t25, l, rfl⟩ := List.exists_cons_of_length_eq_add_one (n := 7) hl; replace hl : l.length = 7 := (by simpa using hl)
          obtain ⟨t26, l, rfl⟩ := List.exists_cons_of_length_eq_add_one (n := 6) hl; replace hl : l.length = 6 := (by simpa using hl)
          obtain ⟨t27, l, rfl⟩ := List.exists_cons_of_length_eq_add_one (n := 5) hl; replace hl : l.length = 5 := (by simpa using hl)
          obtain ⟨t28, l, rfl⟩ := List.exists_cons_of_length_eq_add_one (n := 4) hl; replace hl : l.length = 4 := (by simpa using hl)
          obtain ⟨t29, l, rfl⟩ := List.exists_cons_of_length_eq_add_one (n := 3) hl; replace hl : l.length = 3 := (by simpa using hl)
          obtain ⟨t30, l, rfl⟩ := List.exists_cons_of_length_eq_add_one (n := 2) hl; replace hl : l.length = 2 := (by simpa using hl)
          obtain ⟨t31, l, rfl⟩ := List.exists_cons_of_length_eq_add_one (n := 1) hl; replace hl : l.length = 1 := (by simpa using hl)
          obtain ⟨t32, l, rfl⟩ := List.exists_cons_of_length_eq_add_one (n := 0) hl; replace hl : l.length = 0 := (by simpa using hl)
          obtain rfl := List.eq_nil_of_length_eq_zero hl
          clear hl
          have e := h.kp 0 (by decide); simp only [List.getElem?_toArray, List.getElem?_cons_zero, Option.some.injEq] at e; subst e
          have e := h.kp 1 (by decide); simp only [List.getElem?_toArray, List.getElem?_cons_succ, List.getElem?_cons_zero, Option.some.injEq] at e; subst e
          have e := h.kp 2 (by decide); simp only [List.getElem?_toArray, List.getElem?_cons_succ, List.getElem?_cons_zero, Option.some.injEq] at e; subst e
          have e := h.kp 3 (by decide); simp only [List.getElem?_toArray, List.getElem?_cons_succ, List.getElem?_cons_zero, Option.some.injEq] at e; subst e
          have e := h.kp 4 (by decide); simp only [List.getElem?_toArray, List.getElem?_cons_succ, List.getElem?_cons_zero, Option.some.injEq] at e; subst e
          have e := h.kp 5 (by decide); simp only [List.getElem?_toArray, List.getElem?_cons_succ, List.getElem?_cons_zero, Option.some.injEq] at e; subst e
          have e := h.kp 6 (by decide); simp only [List.getElem?_toArray, List.getElem?_cons_succ, List.getElem?_cons_zero, Option.some.injEq] at e; subst e
          have e := h.kp 7 (by decide); simp only [List.getElem?_toArray, List.getElem?_cons_succ, List.getElem?_cons_zero, Option.some.injEq] at e; subst e
          have e := h.kp 8 (by decide); simp only [List.getElem?_toArray, List.getElem?_cons_succ, List.getElem?_cons_zero, Option.some.injEq] at e; subst e
          have e := h.kp 9 (by decide); simp only [List.getElem?_toArray, List.getElem?_cons_succ, List.getElem?_cons_zero, Option.some.injEq] at e; subst e
          have e := h.kp 10 (by decide); simp only [List.getElem?_toArray, List.getElem?_cons_succ, List.getElem?_cons_zero, Option.some.injEq] at e; subst e
          have e := h.kp 11 (by decide); simp only [List.getElem?_toArray, List.getElem?_cons_succ, List.getElem?_cons_zero, Option.some.injEq] at e; subst e
          have e := h.kp 12 (by decide); simp only [List.getElem?_toArray, List.getElem?_cons_succ, List.getElem?_cons_zero, Option.some.injEq] at e; subst e
          have e := h.kp 13 (by decide); simp only [List.getElem?_toArray, List.getElem?_cons_succ, List.getElem?_cons_zero, Option.some.injEq] at e; subst e
          have e := h.kp 14 (by decide); simp only [List.getElem?_toArray, List.getElem?_cons_succ, List.getElem?_cons_zero, Option.some.injEq] at e; subst e
          have e := h.kp 15 (by decide); simp only [List.getElem?_toArray, List.getElem?_cons_succ, List.getElem?_cons_zero, Option.some.injEq] at e; subst e
          have e := h.kp 16 (by decide); simp only [List.getElem?_toArray, List.getElem?_cons_succ, List.getElem?_cons_zero, Option.some.injEq] at e; subst e
          have e := h.kp 17 (by decide); simp only [List.getElem?_toArray, List.getElem?_cons_succ, List.getElem?_cons_zero, Option.some.injEq] at e; subst e
          have e := h.kp 18 (by decide); simp only [List.getElem?_toArray, List.getElem?_cons_succ, List.getElem?_cons_zero, Option.some.injEq] at e; subst e
          have e := h.kp 19 (by decide); simp only [List.getElem?_toArray, List.getElem?_cons_succ, List.getElem?_cons_zero, Option.some.injEq] at e; subst e
          have e := h.kp 28 (by decide); simp only [List.getElem?_toArray, List.getElem?_cons_succ, List.getElem?_cons_zero, Option.some.injEq] at e; subst e
          have e := h.kp 29 (by decide); simp only [List.getElem?_toArray, List.getElem?_cons_succ, List.getElem?_cons_zero, Option.some.injEq] at e; subst e
          have e := h.kp 30 (by decide); simp only [List.getElem?_toArray, List.getElem?_cons_succ, List.getElem?_cons_zero, Option.some.injEq] at e; subst e
          have e := h.kp 31 (by decide); simp only [List.getElem?_toArray, List.getElem?_cons_succ, List.getElem?_cons_zero, Option.some.injEq] at e; subst e
          have e := h.kp 32 (by decide); simp only [List.getElem?_toArray, List.getElem?_cons_succ, List.getElem?_cons_zero, Option.some.injEq] at e; subst e
          have e := h.p0 (hdn 0 (by omega)); simp only [List.getElem?_toArray, List.getElem?_cons_succ, List.getElem?_cons_zero, Option.some.injEq] at e; subst e
          have e := h.p1 (hdn 1 (by omega)); simp only [List.getElem?_toArray, List.getElem?_cons_succ, List.getElem?_cons_zero, Option.some.injEq] at e; subst e
          have e := h.p2 (hdn 2 (by omega)); simp only [List.getElem?_toArray, List.getElem?_cons_succ, List.getElem?_cons_zero, Option.some.injEq] at e; subst e
          have e := h.p3 (hdn 3 (by omega)); simp only [List.getElem?_toArray, List.getElem?_cons_succ, List.getElem?_cons_zero, Option.some.injEq] at e; subst e
          have e := h.p4 (hdn 4 (by omega)); simp only [List.getElem?_toArray, List.getElem?_cons_succ, List.getElem?_cons_zero, Option.some.injEq] at e; subst e
          have e := h.p5 (hdn 5 (by omega)); simp only [List.getElem?_toArray, List.getElem?_cons_succ, List.getElem?_cons_zero, Option.some.injEq] at e; subst e
          have e := h.p6 (hdn 6 (by omega)); simp only [List.getElem?_toArray, List.getElem?_cons_succ, List.getElem?_cons_zero, Option.some.injEq] at e; subst e
          have e := h.p7 (hdn 7 (by omega)); simp only [List.getElem?_toArray, List.getElem?_cons_succ, List.getElem?_cons_zero, Option.some.injEq] at e; subst e
          have hbc := h.bel
          clear h hdn hall
          go_wp2_with fail
          go_meet
          go_light
          exact ⟨rfl, hbc⟩

      case rest =>
        rename World => wk
        obtain ⟨rfl, hbk⟩ := hcut
        have HBK := Lib.hid (HBEL.out.trans (hbk.mono hwsz))
        have hsk : wr.heap.size ≤ wk.heap.size := hbk.size
        obtain ⟨m0, m1, m2, m3, m4, m5⟩ := CL.out wk hbk
        have HRESK := Lib.hid ((hbk.block w.heap.size (by omega)).trans HRES.out)
        have HBOXK := Lib.hid ((hbk.block (w.heap.size + 1) (by omega)).trans HBOX.out)
        have HRFK := Lib.hid (HRF.out.keep (w' := wk) (ok' := ok) fun b hb => ⟨hb, hbk.block b (by have := HOK.out b hb; omega)⟩)
        have HRMK := Lib.hid (HRM.out.keep (w' := wk) (ok' := ok) fun b hb => ⟨hb, hbk.block b (by have := HOK.out b hb; omega)⟩)
        clear hbk y0 y1 y2
        rw [compare_lt]
        by_cases hh : Lx.heavyV x f < Lx.heavyV x m
        · have HN : Hid (f = Lx.leastL x f0 (r.take (k + 1 - 1))) := Lib.hid (by
            have := Lx.leastL_succ (x := x) (b := f0) HFR.out
            rw [show k + 1 - 1 = (k - 1) + 1 by omega, this, ← HM.out]
            unfold Lx.lighter
            rw [if_pos hh])
          have hd : decide (Lx.heavyV x f < Lx.heavyV x m) = true := by simp [hh]
          rw [hd]
          have f0' : wk.frozen? ⟨w.heap.size + 1, 0, none⟩ = false := by simp [World.frozen?, HBOXK.out]
          have f1' : wk.frozen? ⟨w.heap.size + 1, 1, none⟩ = false := by simp [World.frozen?, HBOXK.out]
          have f2' : wk.frozen? ⟨w.heap.size + 1, 2, none⟩ = false := by simp [World.frozen?, HBOXK.out]
          have HB8 : Hid (Below w.heap.size w (((wk.setCell ⟨w.heap.size + 1, 0, none⟩ (.int .i64 f.entry)).setCell ⟨w.heap.size + 1, 1, none⟩ (.int .i64 f.ending)).setCell ⟨w.heap.size + 1, 2, none⟩ (.slice Sf f.clitics.length kf))) := Lib.hid (((HBK.out.setCell (by simp) _).setCell (by simp) _).setCell (by simp) _)
          have HK8 : Hid (∀ b, b < w.heap.size + 1 → (((wk.setCell ⟨w.heap.size + 1, 0, none⟩ (.int .i64 f.entry)).setCell ⟨w.heap.size + 1, 1, none⟩ (.int .i64 f.ending)).setCell ⟨w.heap.size + 1, 2, none⟩ (.slice Sf f.clitics.length kf)).heap[b]? = wk.heap[b]?) := Lib.hid fun b hb => by
            have h1 : ¬ w.heap.size + 1 = b := by omega
            simp [World.setCell, Array.getElem?_modify, h1]
          have HX8 : Hid ((((wk.setCell ⟨w.heap.size + 1, 0, none⟩ (.int .i64 f.entry)).setCell ⟨w.heap.size + 1, 1, none⟩ (.int .i64 f.ending)).setCell ⟨w.heap.size + 1, 2, none⟩ (.slice Sf f.clitics.length kf)).heap[w.heap.size + 1]? = some (.cells #[.int .i64 f.entry, .int .i64 f.ending, .slice Sf f.clitics.length kf] 29 (0, 0))) := Lib.hid (by
            simp [World.setCell, Array.getElem?_modify, HBOXK.out])
          have HR8 : Hid (RdX (((wk.setCell ⟨w.heap.size + 1, 0, none⟩ (.int .i64 f.entry)).setCell ⟨w.heap.size + 1, 1, none⟩ (.int .i64 f.ending)).setCell ⟨w.heap.size + 1, 2, none⟩ (.slice Sf f.clitics.length kf)) ok 1 encInt (.slice Sf f.clitics.length kf) f.clitics) := Lib.hid (HRFK.out.keep fun b hb => ⟨hb, HK8.out b (by have := HOK.out b hb; omega)⟩)
          clear hh hd
          go_wp2_with fail
          go_roundg (l.length - (k + 1))
          case measure => omega
          case rel => exact ⟨k + 1, f, by omega, by omega, rfl, by go_num, HN.out, HB8.out, by simp [World.setCell]; omega, (HK8.out _ (by omega)).trans HRESK.out, _, HX8.out, HR8.out⟩
        · have HN : Hid (m = Lx.leastL x f0 (r.take (k + 1 - 1))) := Lib.hid (by
            have := Lx.leastL_succ (x := x) (b := f0) HFR.out
            rw [show k + 1 - 1 = (k - 1) + 1 by omega, this, ← HM.out]
            unfold Lx.lighter
            rw [if_neg hh])
          have hd : decide (Lx.heavyV x f < Lx.heavyV x m) = false := by simpa using hh
          rw [hd]
          clear hh hd
          go_wp2_with fail
          go_roundg (l.length - (k + 1))
          case measure => omega
          case rel => exact ⟨k + 1, m, by omega, by omega, rfl, by go_num, HN.out, HBK.out, by omega, HRESK.out, _, HBOXK.out, HRMK.out⟩
    · have HMF : Hid (m = Lx.leastL x f0 r) := Lib.hid (by rw [HM.out]; exact Lx.least_none hk1 (by rw [← HL.out]; omega))
      have hltI : ¬ (k : Int) < (l.length : Int) := by omega
      have m3 : wr.cell? ⟨w.heap.size + 1, 0, none⟩ = some (.int .i64 m.entry) := by simp [World.cell?, hbox]
      have m4 : wr.cell? ⟨w.heap.size + 1, 1, none⟩ = some (.int .i64 m.ending) := by simp [World.cell?, hbox]
      have m5 : wr.cell? ⟨w.heap.size + 1, 2, none⟩ = some (.slice Sm m.clitics.length km) := by simp [World.cell?, hbox]
      have r0 : wr.cell? ⟨w.heap.size, 0, none⟩ = some (.int .i64 0) := by simp [World.cell?, HRES.out]
      have r1 : wr.cell? ⟨w.heap.size, 1, none⟩ = some (.int .i64 0) := by simp [World.cell?, HRES.out]
      have r2 : wr.cell? ⟨w.heap.size, 2, none⟩ = some (.slice none 0 0) := by simp [World.cell?, HRES.out]
      have z0 : wr.frozen? ⟨w.heap.size, 0, none⟩ = false := by simp [World.frozen?, HRES.out]
      have z1 : wr.frozen? ⟨w.heap.size, 1, none⟩ = false := by simp [World.frozen?, HRES.out]
      have z2 : wr.frozen? ⟨w.heap.size, 2, none⟩ = false := by simp [World.frozen?, HRES.out]
      have HB9 : Hid (Below w.heap.size w (((wr.setCell ⟨w.heap.size, 0, none⟩ (.int .i64 m.entry)).setCell ⟨w.heap.size, 1, none⟩ (.int .i64 m.ending)).setCell ⟨w.heap.size, 2, none⟩ (.slice Sm m.clitics.length km))) := Lib.hid (((HBEL.out.setCell (by simp) _).setCell (by simp) _).setCell (by simp) _)
      have HR9 : Hid (RdX (((wr.setCell ⟨w.heap.size, 0, none⟩ (.int .i64 m.entry)).setCell ⟨w.heap.size, 1, none⟩ (.int .i64 m.ending)).setCell ⟨w.heap.size, 2, none⟩ (.slice Sm m.clitics.length km)) ok 1 encInt (.slice Sm m.clitics.length km) m.clitics) := Lib.hid (HRM.out.keep fun b hb => ⟨hb, by
        have h1 : ¬ w.heap.size = b := by have := HOK.out b hb; omega
        simp [World.setCell, Array.getElem?_modify, h1]⟩)
      clear hbox hbel
      go_wp2_with fail
      refine bodyPost_ret (v := .agg #[.int .i64 m.entry, .int .i64 m.ending, .slice Sm m.clitics.length km]) (by simp [results, Tryz.results43, go_sem, r0, r1, r2]) rfl ⟨_, rfl, ?_, HB9.out⟩
      rw [← HMF.out]
      exact ⟨_, rfl, HR9.out⟩
end Go.Proofs.YtpmnpnlfgfleeaaGreatDoor
