/- signs.of, signs.meet. -/
import Derived.Test.YtenmkbpdkfhbjaaGreatRcFmtPlain
import Derived.Test.YtenmkbpdkfhbjaaGreatRcIdle
namespace Go.Proofs.YtenmkbpdkfhbjaaGreat
open Go Go.RowKit

def RetName (v : Sg.Value) (w : World) (e : Ending) (w' : World) : Prop := e = .returned (.agg #[.int .i64 v.kind, .string v.text]) ∧ Below w.heap.size w w'
set_option maxRecDepth 100000 in
set_option maxHeartbeats 2000000 in
theorem gOf_any (v : Sg.Value) (w : World) : Calls Tryz.prog 106 #[.agg #[.int .i64 v.kind, .string v.text, .int .i64 v.lo, .int .i64 v.hi]] w (RetName v w) := by
 go_enter Tryz.func106, Tryz.ntmps106
 go_wp2_with fail
 refine bodyPost_ret (v := .agg #[.int .i64 v.kind, .string v.text]) (by simp [results, Tryz.results106, go_sem]) rfl ⟨rfl, ?_⟩
 exact ((Below.refl _ _).alloc (Nat.le_refl _) _).alloc (by simp) _
structure MtaR (T0 : Array Value) (W0 : World) (ka : Int) (sa : ByteArray) (la ua : Int) (kb : Int) (sb : ByteArray) (lb ub : Int) (xa xb : Nat) (q : Bool) (d : Array Bool) (t : Array Value) (wc : World) : Prop where
 bel : Below W0.heap.size W0 wc
 siz : t.size = 24
 kp : ∀ i, i ∉ ([4, 5, 6, 7, 8, 9, 10, 11, 12, 13, 14, 15, 16, 17, 18, 19, 20, 21, 22, 23] : List Nat) → t[i]? = T0[i]?
 k2 : t[2]? = some (.pointer (some ⟨xa, 0, none⟩))
 k3 : t[3]? = some (.pointer (some ⟨xb, 0, none⟩))
 p0 : dn d 0 → t[5]? = some (.agg #[.int .i64 ka, .string sa, .int .i64 la, .int .i64 ua])
 p1 : dn d 1 → t[6]? = some (.agg #[.int .i64 ka, .string sa])
 p2 : dn d 2 → t[7]? = some (.agg #[.int .i64 kb, .string sb, .int .i64 lb, .int .i64 ub])
 p3 : dn d 3 → t[8]? = some (.agg #[.int .i64 kb, .string sb])
 p4 : dn d 4 → t[9]? = some (.bool false)
 p5 : dn d 5 → t[10]? = some (.bool false)
 p6 : dn d 6 → t[11]? = some (undef)
 p7 : dn d 7 → t[12]? = some (undef)
 p8 : dn d 8 → t[13]? = some (undef)
 p9 : dn d 9 → t[14]? = some (undef)
 p10 : dn d 10 → t[15]? = some (undef)
 p11 : dn d 11 → t[16]? = some (.bool false)
 p12 : dn d 12 → t[17]? = some (.bool false)
 p13 : dn d 13 → t[18]? = some (undef)
 p14 : dn d 14 → t[19]? = some (undef)
 p15 : dn d 15 → t[20]? = some (undef)
 p16 : dn d 16 → t[21]? = some (undef)
 p17 : dn d 17 → t[22]? = some (undef)
 p18 : dn d 18 → t[23]? = some (.bool false)
 p19 : dn d 19 → t[4]? = some (.bool false)
def MtaI (T0 : Array Value) (W0 : World) (ka : Int) (sa : ByteArray) (la ua : Int) (kb : Int) (sb : ByteArray) (lb ub : Int) (xa xb : Nat) (q : Bool) (d : Array Bool) (a : Act) (wc : World) : Prop := ∃ t : Array Value, a = ⟨t, []⟩ ∧ MtaR T0 W0 ka sa la ua kb sb lb ub xa xb q d t wc
structure MtbR (T0 : Array Value) (W0 : World) (ka : Int) (sa : ByteArray) (la ua : Int) (kb : Int) (sb : ByteArray) (lb ub : Int) (xa xb : Nat) (q : Bool) (d : Array Bool) (t : Array Value) (wc : World) : Prop where
 bel : Below W0.heap.size W0 wc
 siz : t.size = 24
 kp : ∀ i, i ∉ ([4, 5, 6, 7, 8, 9, 10, 11, 12, 13, 14, 15, 16, 17, 18, 19, 20, 21, 22, 23] : List Nat) → t[i]? = T0[i]?
 k2 : t[2]? = some (.pointer (some ⟨xa, 0, none⟩))
 k3 : t[3]? = some (.pointer (some ⟨xb, 0, none⟩))
 p0 : dn d 0 → t[5]? = some (.agg #[.int .i64 ka, .string sa, .int .i64 la, .int .i64 ua])
 p1 : dn d 1 → t[6]? = some (.agg #[.int .i64 ka, .string sa])
 p2 : dn d 2 → t[7]? = some (.agg #[.int .i64 kb, .string sb, .int .i64 lb, .int .i64 ub])
 p3 : dn d 3 → t[8]? = some (.agg #[.int .i64 kb, .string sb])
 p4 : dn d 4 → t[9]? = some (.bool true)
 p5 : dn d 5 → t[10]? = some (.bool true)
 p6 : dn d 6 → t[11]? = some (.pointer (some ⟨xa, 2, none⟩))
 p7 : dn d 7 → t[12]? = some (.int .i64 la)
 p8 : dn d 8 → t[13]? = some (.pointer (some ⟨xb, 3, none⟩))
 p9 : dn d 9 → t[14]? = some (.int .i64 ub)
 p10 : dn d 10 → t[15]? = some (.bool false)
 p11 : dn d 11 → t[16]? = some (.bool false)
 p12 : dn d 12 → t[17]? = some (.bool false)
 p13 : dn d 13 → t[18]? = some (undef)
 p14 : dn d 14 → t[19]? = some (undef)
 p15 : dn d 15 → t[20]? = some (undef)
 p16 : dn d 16 → t[21]? = some (undef)
 p17 : dn d 17 → t[22]? = some (undef)
 p18 : dn d 18 → t[23]? = some (.bool false)
 p19 : dn d 19 → t[4]? = some (.bool false)
def MtbI (T0 : Array Value) (W0 : World) (ka : Int) (sa : ByteArray) (la ua : Int) (kb : Int) (sb : ByteArray) (lb ub : Int) (xa xb : Nat) (q : Bool) (d : Array Bool) (a : Act) (wc : World) : Prop := ∃ t : Array Value, a = ⟨t, []⟩ ∧ MtbR T0 W0 ka sa la ua kb sb lb ub xa xb q d t wc
structure MtcR (T0 : Array Value) (W0 : World) (ka : Int) (sa : ByteArray) (la ua : Int) (kb : Int) (sb : ByteArray) (lb ub : Int) (xa xb : Nat) (q : Bool) (d : Array Bool) (t : Array Value) (wc : World) : Prop where
 bel : Below W0.heap.size W0 wc
 siz : t.size = 24
 kp : ∀ i, i ∉ ([4, 5, 6, 7, 8, 9, 10, 11, 12, 13, 14, 15, 16, 17, 18, 19, 20, 21, 22, 23] : List Nat) → t[i]? = T0[i]?
 k2 : t[2]? = some (.pointer (some ⟨xa, 0, none⟩))
 k3 : t[3]? = some (.pointer (some ⟨xb, 0, none⟩))
 p0 : dn d 0 → t[5]? = some (.agg #[.int .i64 ka, .string sa, .int .i64 la, .int .i64 ua])
 p1 : dn d 1 → t[6]? = some (.agg #[.int .i64 ka, .string sa])
 p2 : dn d 2 → t[7]? = some (.agg #[.int .i64 kb, .string sb, .int .i64 lb, .int .i64 ub])
 p3 : dn d 3 → t[8]? = some (.agg #[.int .i64 kb, .string sb])
 p4 : dn d 4 → t[9]? = some (.bool true)
 p5 : dn d 5 → t[10]? = some (.bool true)
 p6 : dn d 6 → t[11]? = some (.pointer (some ⟨xa, 2, none⟩))
 p7 : dn d 7 → t[12]? = some (.int .i64 la)
 p8 : dn d 8 → t[13]? = some (.pointer (some ⟨xb, 3, none⟩))
 p9 : dn d 9 → t[14]? = some (.int .i64 ub)
 p10 : dn d 10 → t[15]? = some (.bool true)
 p11 : dn d 11 → t[16]? = some (.bool true)
 p12 : dn d 12 → t[17]? = some (.bool true)
 p13 : dn d 13 → t[18]? = some (.pointer (some ⟨xb, 2, none⟩))
 p14 : dn d 14 → t[19]? = some (.int .i64 lb)
 p15 : dn d 15 → t[20]? = some (.pointer (some ⟨xa, 3, none⟩))
 p16 : dn d 16 → t[21]? = some (.int .i64 ua)
 p17 : dn d 17 → t[22]? = some (.bool q)
 p18 : dn d 18 → t[23]? = some (.bool q)
 p19 : dn d 19 → t[4]? = some (.bool q)
def MtcI (T0 : Array Value) (W0 : World) (ka : Int) (sa : ByteArray) (la ua : Int) (kb : Int) (sb : ByteArray) (lb ub : Int) (xa xb : Nat) (q : Bool) (d : Array Bool) (a : Act) (wc : World) : Prop := ∃ t : Array Value, a = ⟨t, []⟩ ∧ MtcR T0 W0 ka sa la ua kb sb lb ub xa xb q d t wc
set_option maxRecDepth 100000 in
set_option maxHeartbeats 4000000 in
theorem gMeet_any (a b : Sg.Value) (w : World) : Calls Tryz.prog 85 #[.agg #[.int .i64 a.kind, .string a.text, .int .i64 a.lo, .int .i64 a.hi], .agg #[.int .i64 b.kind, .string b.text, .int .i64 b.lo, .int .i64 b.hi]] w (RetBB (Sg.meetB a b) w) := by
 obtain ⟨ka, sa, la, ua⟩ := a
 obtain ⟨kb, sb, lb, ub⟩ := b
 obtain ⟨wA, hwA⟩ : ∃ wA, wA = (w.alloc (.cells #[.int .i64 ka, .string sa, .int .i64 la, .int .i64 ua] 103)).alloc (.cells #[.int .i64 kb, .string sb, .int .i64 lb, .int .i64 ub] 103) := ⟨_, rfl⟩
 have hba : Below w.heap.size w wA := by rw [hwA]; exact ((Below.refl _ _).alloc (Nat.le_refl _) _).alloc (by simp) _
 have hsa : w.heap.size + 1 < wA.heap.size := by rw [hwA]; simp
 have hX : wA.heap[w.heap.size]? = some (.cells #[.int .i64 ka, .string sa, .int .i64 la, .int .i64 ua] 103 (0, 0)) := by rw [hwA]; exact start_fst w _ _
 have hY : wA.heap[w.heap.size + 1]? = some (.cells #[.int .i64 kb, .string sb, .int .i64 lb, .int .i64 ub] 103 (0, 0)) := by rw [hwA]; exact start_res' w _ _
 have CA : Hid (∀ W, Below wA.heap.size wA W → W.cell? ⟨w.heap.size, 0, none⟩ = some (.int .i64 ka) ∧ W.cell? ⟨w.heap.size, 1, none⟩ = some (.string sa) ∧ W.cell? ⟨w.heap.size, 2, none⟩ = some (.int .i64 la) ∧ W.cell? ⟨w.heap.size, 3, none⟩ = some (.int .i64 ua) ∧
   W.cell? ⟨w.heap.size + 1, 0, none⟩ = some (.int .i64 kb) ∧ W.cell? ⟨w.heap.size + 1, 1, none⟩ = some (.string sb) ∧ W.cell? ⟨w.heap.size + 1, 2, none⟩ = some (.int .i64 lb) ∧ W.cell? ⟨w.heap.size + 1, 3, none⟩ = some (.int .i64 ub)) := Lib.hid fun W hW => by
  have p := (hW.block w.heap.size (by omega)).trans hX
  have r := (hW.block (w.heap.size + 1) (by omega)).trans hY
  exact ⟨by simp [World.cell?, p], by simp [World.cell?, p], by simp [World.cell?, p], by simp [World.cell?, p], by simp [World.cell?, r], by simp [World.cell?, r], by simp [World.cell?, r], by simp [World.cell?, r]⟩
 have HBA := Lib.hid hba
 have HWA := Lib.hid hwA
 clear hba hX hY hwA
 by_cases hn : ka = kb ∧ sa = sb
 ·obtain ⟨rfl, rfl⟩ := hn
  by_cases hl : la ≤ ub
  ·have HM : Hid (decide (lb ≤ ua) = Sg.meetB ⟨ka, sa, la, ua⟩ ⟨ka, sa, lb, ub⟩) := Lib.hid (by simp [Sg.meetB, hl])
   go_enter Tryz.func85, Tryz.ntmps85
   go_upto_region 1 with fail
   rw [← HWA.out]
   refine wp_region_inv2T (fun T0 => MtcI T0 wA ka sa la ua ka sa lb ub w.heap.size (w.heap.size + 1) (decide (lb ≤ ua))) (by kernel_rfl) (by kernel_rfl) ?g0c ?gstepc ?gendc
   case g0c =>
    have hno : ∀ j, ¬ dn (Array.replicate 20 false) j := by
     intro j; unfold dn; by_cases hj : j < 20 <;> simp [Array.getD, hj]
    have na : ∀ {j : Nat} {Z : Prop}, dn (Array.replicate 20 false) j → Z := fun hj => absurd hj (hno _)
    exact ⟨_, rfl, { bel := (Below.refl _ _).drew, siz := rfl, kp := fun _ _ => rfl, k2 := rfl, k3 := rfl, p0 := na, p1 := na, p2 := na, p3 := na, p4 := na, p5 := na, p6 := na, p7 := na, p8 := na, p9 := na, p10 := na, p11 := na, p12 := na, p13 := na, p14 := na, p15 := na, p16 := na, p17 := na, p18 := na, p19 := na }⟩
   case gstepc =>
    intro T0 d a wc i hd hI hi
    obtain ⟨hlt, hnd, hpre⟩ := mem_ready hi
    have hd' : d.size = 20 := hd
    have hin : i < 20 := hlt
    clear hi hd hlt
    obtain ⟨t, rfl, h⟩ := hI
    have hcs : i = 0 ∨ i = 1 ∨ i = 2 ∨ i = 3 ∨ i = 4 ∨ i = 5 ∨ i = 6 ∨ i = 7 ∨ i = 8 ∨ i = 9 ∨ i = 10 ∨ i = 11 ∨ i = 12 ∨ i = 13 ∨ i = 14 ∨ i = 15 ∨ i = 16 ∨ i = 17 ∨ i = 18 ∨ i = 19 := by omega
    rcases hcs with rfl | rfl | rfl | rfl | rfl | rfl | rfl | rfl | rfl | rfl | rfl | rfl | rfl | rfl | rfl | rfl | rfl | rfl | rfl | rfl
    ·have hi : 0 < d.size := by omega
     have q2 := h.k2
     obtain ⟨m0, m1, m2, m3, n0, n1, n2, n3⟩ := CA.out wc h.bel
     refine wpOp_plain rfl rfl ?_
     go_simp
     exact ⟨_, rfl, { bel := h.bel, siz := (by simpa using h.siz), kp := rk h.kp, k2 := rs h.k2, k3 := rs h.k3, p0 := fun _ => set_same (by have := h.siz; omega), p1 := rp hi h.p1, p2 := rp hi h.p2, p3 := rp hi h.p3, p4 := rp hi h.p4, p5 := rp hi h.p5, p6 := rp hi h.p6, p7 := rp hi h.p7, p8 := rp hi h.p8, p9 := rp hi h.p9, p10 := rp hi h.p10, p11 := rp hi h.p11, p12 := rp hi h.p12, p13 := rp hi h.p13, p14 := rp hi h.p14, p15 := rp hi h.p15, p16 := rp hi h.p16, p17 := rp hi h.p17, p18 := rp hi h.p18, p19 := rp hi h.p19 }⟩
    ·have hi : 1 < d.size := by omega
     have e0 := h.p0 (hpre _ rfl ⟨0, .data⟩ (by simp) rfl)
     refine wpOp_plain rfl rfl ?_
     go_simp
     refine (gOf_any ⟨ka, sa, la, ua⟩ wc).mono ?_
     rintro e1 w1 ⟨rfl, hb⟩
     exact ⟨_, rfl, { bel := h.bel.trans (hb.mono h.bel.size), siz := (by simpa using h.siz), kp := rk h.kp, k2 := rs h.k2, k3 := rs h.k3, p0 := rp hi h.p0, p1 := fun _ => set_same (by have := h.siz; omega), p2 := rp hi h.p2, p3 := rp hi h.p3, p4 := rp hi h.p4, p5 := rp hi h.p5, p6 := rp hi h.p6, p7 := rp hi h.p7, p8 := rp hi h.p8, p9 := rp hi h.p9, p10 := rp hi h.p10, p11 := rp hi h.p11, p12 := rp hi h.p12, p13 := rp hi h.p13, p14 := rp hi h.p14, p15 := rp hi h.p15, p16 := rp hi h.p16, p17 := rp hi h.p17, p18 := rp hi h.p18, p19 := rp hi h.p19 }⟩
    ·have hi : 2 < d.size := by omega
     have q3 := h.k3
     obtain ⟨m0, m1, m2, m3, n0, n1, n2, n3⟩ := CA.out wc h.bel
     refine wpOp_plain rfl rfl ?_
     go_simp
     exact ⟨_, rfl, { bel := h.bel, siz := (by simpa using h.siz), kp := rk h.kp, k2 := rs h.k2, k3 := rs h.k3, p0 := rp hi h.p0, p1 := rp hi h.p1, p2 := fun _ => set_same (by have := h.siz; omega), p3 := rp hi h.p3, p4 := rp hi h.p4, p5 := rp hi h.p5, p6 := rp hi h.p6, p7 := rp hi h.p7, p8 := rp hi h.p8, p9 := rp hi h.p9, p10 := rp hi h.p10, p11 := rp hi h.p11, p12 := rp hi h.p12, p13 := rp hi h.p13, p14 := rp hi h.p14, p15 := rp hi h.p15, p16 := rp hi h.p16, p17 := rp hi h.p17, p18 := rp hi h.p18, p19 := rp hi h.p19 }⟩
    ·have hi : 3 < d.size := by omega
     have e2 := h.p2 (hpre _ rfl ⟨2, .data⟩ (by simp) rfl)
     refine wpOp_plain rfl rfl ?_
     go_simp
     refine (gOf_any ⟨ka, sa, lb, ub⟩ wc).mono ?_
     rintro e1 w1 ⟨rfl, hb⟩
     exact ⟨_, rfl, { bel := h.bel.trans (hb.mono h.bel.size), siz := (by simpa using h.siz), kp := rk h.kp, k2 := rs h.k2, k3 := rs h.k3, p0 := rp hi h.p0, p1 := rp hi h.p1, p2 := rp hi h.p2, p3 := fun _ => set_same (by have := h.siz; omega), p4 := rp hi h.p4, p5 := rp hi h.p5, p6 := rp hi h.p6, p7 := rp hi h.p7, p8 := rp hi h.p8, p9 := rp hi h.p9, p10 := rp hi h.p10, p11 := rp hi h.p11, p12 := rp hi h.p12, p13 := rp hi h.p13, p14 := rp hi h.p14, p15 := rp hi h.p15, p16 := rp hi h.p16, p17 := rp hi h.p17, p18 := rp hi h.p18, p19 := rp hi h.p19 }⟩
    ·have hi : 4 < d.size := by omega
     have e1 := h.p1 (hpre _ rfl ⟨1, .data⟩ (by simp) rfl)
     have e3 := h.p3 (hpre _ rfl ⟨3, .data⟩ (by simp) rfl)
     refine wpOp_plain rfl rfl ?_
     go_simp
     exact ⟨_, rfl, { bel := h.bel, siz := (by simpa using h.siz), kp := rk h.kp, k2 := rs h.k2, k3 := rs h.k3, p0 := rp hi h.p0, p1 := rp hi h.p1, p2 := rp hi h.p2, p3 := rp hi h.p3, p4 := fun _ => set_same (by have := h.siz; omega), p5 := rp hi h.p5, p6 := rp hi h.p6, p7 := rp hi h.p7, p8 := rp hi h.p8, p9 := rp hi h.p9, p10 := rp hi h.p10, p11 := rp hi h.p11, p12 := rp hi h.p12, p13 := rp hi h.p13, p14 := rp hi h.p14, p15 := rp hi h.p15, p16 := rp hi h.p16, p17 := rp hi h.p17, p18 := rp hi h.p18, p19 := rp hi h.p19 }⟩
    ·have hi : 5 < d.size := by omega
     have e4 := h.p4 (hpre _ rfl ⟨4, .data⟩ (by simp) rfl)
     refine wpOp_plain rfl rfl ?_
     go_simp
     exact ⟨_, rfl, { bel := h.bel, siz := (by simpa using h.siz), kp := rk h.kp, k2 := rs h.k2, k3 := rs h.k3, p0 := rp hi h.p0, p1 := rp hi h.p1, p2 := rp hi h.p2, p3 := rp hi h.p3, p4 := rp hi h.p4, p5 := fun _ => set_same (by have := h.siz; omega), p6 := rp hi h.p6, p7 := rp hi h.p7, p8 := rp hi h.p8, p9 := rp hi h.p9, p10 := rp hi h.p10, p11 := rp hi h.p11, p12 := rp hi h.p12, p13 := rp hi h.p13, p14 := rp hi h.p14, p15 := rp hi h.p15, p16 := rp hi h.p16, p17 := rp hi h.p17, p18 := rp hi h.p18, p19 := rp hi h.p19 }⟩
    ·have hi : 6 < d.size := by omega
     have q2 := h.k2
     refine wpOp_guard rfl (wanted_of (d := 10) rfl rfl (h.p5 (hpre _ rfl ⟨5, .guard⟩ (by simp) rfl))) ?_
     go_simp
     exact ⟨_, rfl, { bel := h.bel, siz := (by simpa using h.siz), kp := rk h.kp, k2 := rs h.k2, k3 := rs h.k3, p0 := rp hi h.p0, p1 := rp hi h.p1, p2 := rp hi h.p2, p3 := rp hi h.p3, p4 := rp hi h.p4, p5 := rp hi h.p5, p6 := fun _ => set_same (by have := h.siz; omega), p7 := rp hi h.p7, p8 := rp hi h.p8, p9 := rp hi h.p9, p10 := rp hi h.p10, p11 := rp hi h.p11, p12 := rp hi h.p12, p13 := rp hi h.p13, p14 := rp hi h.p14, p15 := rp hi h.p15, p16 := rp hi h.p16, p17 := rp hi h.p17, p18 := rp hi h.p18, p19 := rp hi h.p19 }⟩
    ·have hi : 7 < d.size := by omega
     have e6 := h.p6 (hpre _ rfl ⟨6, .data⟩ (by simp) rfl)
     obtain ⟨m0, m1, m2, m3, n0, n1, n2, n3⟩ := CA.out wc h.bel
     refine wpOp_guard rfl (wanted_of (d := 10) rfl rfl (h.p5 (hpre _ rfl ⟨5, .guard⟩ (by simp) rfl))) ?_
     go_simp
     exact ⟨_, rfl, { bel := h.bel, siz := (by simpa using h.siz), kp := rk h.kp, k2 := rs h.k2, k3 := rs h.k3, p0 := rp hi h.p0, p1 := rp hi h.p1, p2 := rp hi h.p2, p3 := rp hi h.p3, p4 := rp hi h.p4, p5 := rp hi h.p5, p6 := rp hi h.p6, p7 := fun _ => set_same (by have := h.siz; omega), p8 := rp hi h.p8, p9 := rp hi h.p9, p10 := rp hi h.p10, p11 := rp hi h.p11, p12 := rp hi h.p12, p13 := rp hi h.p13, p14 := rp hi h.p14, p15 := rp hi h.p15, p16 := rp hi h.p16, p17 := rp hi h.p17, p18 := rp hi h.p18, p19 := rp hi h.p19 }⟩
    ·have hi : 8 < d.size := by omega
     have q3 := h.k3
     refine wpOp_guard rfl (wanted_of (d := 10) rfl rfl (h.p5 (hpre _ rfl ⟨5, .guard⟩ (by simp) rfl))) ?_
     go_simp
     exact ⟨_, rfl, { bel := h.bel, siz := (by simpa using h.siz), kp := rk h.kp, k2 := rs h.k2, k3 := rs h.k3, p0 := rp hi h.p0, p1 := rp hi h.p1, p2 := rp hi h.p2, p3 := rp hi h.p3, p4 := rp hi h.p4, p5 := rp hi h.p5, p6 := rp hi h.p6, p7 := rp hi h.p7, p8 := fun _ => set_same (by have := h.siz; omega), p9 := rp hi h.p9, p10 := rp hi h.p10, p11 := rp hi h.p11, p12 := rp hi h.p12, p13 := rp hi h.p13, p14 := rp hi h.p14, p15 := rp hi h.p15, p16 := rp hi h.p16, p17 := rp hi h.p17, p18 := rp hi h.p18, p19 := rp hi h.p19 }⟩
    ·have hi : 9 < d.size := by omega
     have e8 := h.p8 (hpre _ rfl ⟨8, .data⟩ (by simp) rfl)
     obtain ⟨m0, m1, m2, m3, n0, n1, n2, n3⟩ := CA.out wc h.bel
     refine wpOp_guard rfl (wanted_of (d := 10) rfl rfl (h.p5 (hpre _ rfl ⟨5, .guard⟩ (by simp) rfl))) ?_
     go_simp
     exact ⟨_, rfl, { bel := h.bel, siz := (by simpa using h.siz), kp := rk h.kp, k2 := rs h.k2, k3 := rs h.k3, p0 := rp hi h.p0, p1 := rp hi h.p1, p2 := rp hi h.p2, p3 := rp hi h.p3, p4 := rp hi h.p4, p5 := rp hi h.p5, p6 := rp hi h.p6, p7 := rp hi h.p7, p8 := rp hi h.p8, p9 := fun _ => set_same (by have := h.siz; omega), p10 := rp hi h.p10, p11 := rp hi h.p11, p12 := rp hi h.p12, p13 := rp hi h.p13, p14 := rp hi h.p14, p15 := rp hi h.p15, p16 := rp hi h.p16, p17 := rp hi h.p17, p18 := rp hi h.p18, p19 := rp hi h.p19 }⟩
    ·have hi : 10 < d.size := by omega
     have e7 := h.p7 (hpre _ rfl ⟨7, .data⟩ (by simp) rfl)
     have e9 := h.p9 (hpre _ rfl ⟨9, .data⟩ (by simp) rfl)
     refine wpOp_guard rfl (wanted_of (d := 10) rfl rfl (h.p5 (hpre _ rfl ⟨5, .guard⟩ (by simp) rfl))) ?_
     go_simp
     exact ⟨_, rfl, { bel := h.bel, siz := (by simpa using h.siz), kp := rk h.kp, k2 := rs h.k2, k3 := rs h.k3, p0 := rp hi h.p0, p1 := rp hi h.p1, p2 := rp hi h.p2, p3 := rp hi h.p3, p4 := rp hi h.p4, p5 := rp hi h.p5, p6 := rp hi h.p6, p7 := rp hi h.p7, p8 := rp hi h.p8, p9 := rp hi h.p9, p10 := fun _ => set_same (by have := h.siz; omega), p11 := rp hi h.p11, p12 := rp hi h.p12, p13 := rp hi h.p13, p14 := rp hi h.p14, p15 := rp hi h.p15, p16 := rp hi h.p16, p17 := rp hi h.p17, p18 := rp hi h.p18, p19 := rp hi h.p19 }⟩
    ·have hi : 11 < d.size := by omega
     have e5 := h.p5 (hpre _ rfl ⟨5, .data⟩ (by simp) rfl)
     have e10 := h.p10 (hpre _ rfl ⟨10, .data⟩ (by simp) rfl)
     refine wpOp_plain rfl rfl ?_
     go_simp
     exact ⟨_, rfl, { bel := h.bel, siz := (by simpa using h.siz), kp := rk h.kp, k2 := rs h.k2, k3 := rs h.k3, p0 := rp hi h.p0, p1 := rp hi h.p1, p2 := rp hi h.p2, p3 := rp hi h.p3, p4 := rp hi h.p4, p5 := rp hi h.p5, p6 := rp hi h.p6, p7 := rp hi h.p7, p8 := rp hi h.p8, p9 := rp hi h.p9, p10 := rp hi h.p10, p11 := fun _ => set_same (by have := h.siz; omega), p12 := rp hi h.p12, p13 := rp hi h.p13, p14 := rp hi h.p14, p15 := rp hi h.p15, p16 := rp hi h.p16, p17 := rp hi h.p17, p18 := rp hi h.p18, p19 := rp hi h.p19 }⟩
    ·have hi : 12 < d.size := by omega
     have e11 := h.p11 (hpre _ rfl ⟨11, .data⟩ (by simp) rfl)
     refine wpOp_plain rfl rfl ?_
     go_simp
     exact ⟨_, rfl, { bel := h.bel, siz := (by simpa using h.siz), kp := rk h.kp, k2 := rs h.k2, k3 := rs h.k3, p0 := rp hi h.p0, p1 := rp hi h.p1, p2 := rp hi h.p2, p3 := rp hi h.p3, p4 := rp hi h.p4, p5 := rp hi h.p5, p6 := rp hi h.p6, p7 := rp hi h.p7, p8 := rp hi h.p8, p9 := rp hi h.p9, p10 := rp hi h.p10, p11 := rp hi h.p11, p12 := fun _ => set_same (by have := h.siz; omega), p13 := rp hi h.p13, p14 := rp hi h.p14, p15 := rp hi h.p15, p16 := rp hi h.p16, p17 := rp hi h.p17, p18 := rp hi h.p18, p19 := rp hi h.p19 }⟩
    ·have hi : 13 < d.size := by omega
     have q3 := h.k3
     refine wpOp_guard rfl (wanted_of (d := 17) rfl rfl (h.p12 (hpre _ rfl ⟨12, .guard⟩ (by simp) rfl))) ?_
     go_simp
     exact ⟨_, rfl, { bel := h.bel, siz := (by simpa using h.siz), kp := rk h.kp, k2 := rs h.k2, k3 := rs h.k3, p0 := rp hi h.p0, p1 := rp hi h.p1, p2 := rp hi h.p2, p3 := rp hi h.p3, p4 := rp hi h.p4, p5 := rp hi h.p5, p6 := rp hi h.p6, p7 := rp hi h.p7, p8 := rp hi h.p8, p9 := rp hi h.p9, p10 := rp hi h.p10, p11 := rp hi h.p11, p12 := rp hi h.p12, p13 := fun _ => set_same (by have := h.siz; omega), p14 := rp hi h.p14, p15 := rp hi h.p15, p16 := rp hi h.p16, p17 := rp hi h.p17, p18 := rp hi h.p18, p19 := rp hi h.p19 }⟩
    ·have hi : 14 < d.size := by omega
     have e13 := h.p13 (hpre _ rfl ⟨13, .data⟩ (by simp) rfl)
     obtain ⟨m0, m1, m2, m3, n0, n1, n2, n3⟩ := CA.out wc h.bel
     refine wpOp_guard rfl (wanted_of (d := 17) rfl rfl (h.p12 (hpre _ rfl ⟨12, .guard⟩ (by simp) rfl))) ?_
     go_simp
     exact ⟨_, rfl, { bel := h.bel, siz := (by simpa using h.siz), kp := rk h.kp, k2 := rs h.k2, k3 := rs h.k3, p0 := rp hi h.p0, p1 := rp hi h.p1, p2 := rp hi h.p2, p3 := rp hi h.p3, p4 := rp hi h.p4, p5 := rp hi h.p5, p6 := rp hi h.p6, p7 := rp hi h.p7, p8 := rp hi h.p8, p9 := rp hi h.p9, p10 := rp hi h.p10, p11 := rp hi h.p11, p12 := rp hi h.p12, p13 := rp hi h.p13, p14 := fun _ => set_same (by have := h.siz; omega), p15 := rp hi h.p15, p16 := rp hi h.p16, p17 := rp hi h.p17, p18 := rp hi h.p18, p19 := rp hi h.p19 }⟩
    ·have hi : 15 < d.size := by omega
     have q2 := h.k2
     refine wpOp_guard rfl (wanted_of (d := 17) rfl rfl (h.p12 (hpre _ rfl ⟨12, .guard⟩ (by simp) rfl))) ?_
     go_simp
     exact ⟨_, rfl, { bel := h.bel, siz := (by simpa using h.siz), kp := rk h.kp, k2 := rs h.k2, k3 := rs h.k3, p0 := rp hi h.p0, p1 := rp hi h.p1, p2 := rp hi h.p2, p3 := rp hi h.p3, p4 := rp hi h.p4, p5 := rp hi h.p5, p6 := rp hi h.p6, p7 := rp hi h.p7, p8 := rp hi h.p8, p9 := rp hi h.p9, p10 := rp hi h.p10, p11 := rp hi h.p11, p12 := rp hi h.p12, p13 := rp hi h.p13, p14 := rp hi h.p14, p15 := fun _ => set_same (by have := h.siz; omega), p16 := rp hi h.p16, p17 := rp hi h.p17, p18 := rp hi h.p18, p19 := rp hi h.p19 }⟩
    ·have hi : 16 < d.size := by omega
     have e15 := h.p15 (hpre _ rfl ⟨15, .data⟩ (by simp) rfl)
     obtain ⟨m0, m1, m2, m3, n0, n1, n2, n3⟩ := CA.out wc h.bel
     refine wpOp_guard rfl (wanted_of (d := 17) rfl rfl (h.p12 (hpre _ rfl ⟨12, .guard⟩ (by simp) rfl))) ?_
     go_simp
     exact ⟨_, rfl, { bel := h.bel, siz := (by simpa using h.siz), kp := rk h.kp, k2 := rs h.k2, k3 := rs h.k3, p0 := rp hi h.p0, p1 := rp hi h.p1, p2 := rp hi h.p2, p3 := rp hi h.p3, p4 := rp hi h.p4, p5 := rp hi h.p5, p6 := rp hi h.p6, p7 := rp hi h.p7, p8 := rp hi h.p8, p9 := rp hi h.p9, p10 := rp hi h.p10, p11 := rp hi h.p11, p12 := rp hi h.p12, p13 := rp hi h.p13, p14 := rp hi h.p14, p15 := rp hi h.p15, p16 := fun _ => set_same (by have := h.siz; omega), p17 := rp hi h.p17, p18 := rp hi h.p18, p19 := rp hi h.p19 }⟩
    ·have hi : 17 < d.size := by omega
     have e14 := h.p14 (hpre _ rfl ⟨14, .data⟩ (by simp) rfl)
     have e16 := h.p16 (hpre _ rfl ⟨16, .data⟩ (by simp) rfl)
     refine wpOp_guard rfl (wanted_of (d := 17) rfl rfl (h.p12 (hpre _ rfl ⟨12, .guard⟩ (by simp) rfl))) ?_
     go_simp
     exact ⟨_, rfl, { bel := h.bel, siz := (by simpa using h.siz), kp := rk h.kp, k2 := rs h.k2, k3 := rs h.k3, p0 := rp hi h.p0, p1 := rp hi h.p1, p2 := rp hi h.p2, p3 := rp hi h.p3, p4 := rp hi h.p4, p5 := rp hi h.p5, p6 := rp hi h.p6, p7 := rp hi h.p7, p8 := rp hi h.p8, p9 := rp hi h.p9, p10 := rp hi h.p10, p11 := rp hi h.p11, p12 := rp hi h.p12, p13 := rp hi h.p13, p14 := rp hi h.p14, p15 := rp hi h.p15, p16 := rp hi h.p16, p17 := fun _ => set_same (by have := h.siz; omega), p18 := rp hi h.p18, p19 := rp hi h.p19 }⟩
    ·have hi : 18 < d.size := by omega
     have e12 := h.p12 (hpre _ rfl ⟨12, .data⟩ (by simp) rfl)
     have e17 := h.p17 (hpre _ rfl ⟨17, .data⟩ (by simp) rfl)
     refine wpOp_plain rfl rfl ?_
     go_simp
     exact ⟨_, rfl, { bel := h.bel, siz := (by simpa using h.siz), kp := rk h.kp, k2 := rs h.k2, k3 := rs h.k3, p0 := rp hi h.p0, p1 := rp hi h.p1, p2 := rp hi h.p2, p3 := rp hi h.p3, p4 := rp hi h.p4, p5 := rp hi h.p5, p6 := rp hi h.p6, p7 := rp hi h.p7, p8 := rp hi h.p8, p9 := rp hi h.p9, p10 := rp hi h.p10, p11 := rp hi h.p11, p12 := rp hi h.p12, p13 := rp hi h.p13, p14 := rp hi h.p14, p15 := rp hi h.p15, p16 := rp hi h.p16, p17 := rp hi h.p17, p18 := fun _ => set_same (by have := h.siz; omega), p19 := rp hi h.p19 }⟩
    ·have hi : 19 < d.size := by omega
     have e18 := h.p18 (hpre _ rfl ⟨18, .data⟩ (by simp) rfl)
     refine wpOp_plain rfl rfl ?_
     go_simp
     exact ⟨_, rfl, { bel := h.bel, siz := (by simpa using h.siz), kp := rk h.kp, k2 := rs h.k2, k3 := rs h.k3, p0 := rp hi h.p0, p1 := rp hi h.p1, p2 := rp hi h.p2, p3 := rp hi h.p3, p4 := rp hi h.p4, p5 := rp hi h.p5, p6 := rp hi h.p6, p7 := rp hi h.p7, p8 := rp hi h.p8, p9 := rp hi h.p9, p10 := rp hi h.p10, p11 := rp hi h.p11, p12 := rp hi h.p12, p13 := rp hi h.p13, p14 := rp hi h.p14, p15 := rp hi h.p15, p16 := rp hi h.p16, p17 := rp hi h.p17, p18 := rp hi h.p18, p19 := fun _ => set_same (by have := h.siz; omega) }⟩
   case gendc =>
    intro d a wc hd hI hall
    obtain ⟨t, rfl, h⟩ := hI
    have hdn : ∀ j, j < 20 → dn d j := fun j hj => dn_all hd hall hj
    have hd : ∀ j, (_ : j < 20 := by decide) → dn d j := fun j hj => hdn j hj
    have hfe := frame_eq [(4, _), (5, _), (6, _), (7, _), (8, _), (9, _), (10, _), (11, _), (12, _), (13, _), (14, _), (15, _), (16, _), (17, _), (18, _), (19, _), (20, _), (21, _), (22, _), (23, _)] (h.siz.trans rfl) h.kp rfl ⟨h.p19 (hd 19), h.p0 (hd 0), h.p1 (hd 1), h.p2 (hd 2), h.p3 (hd 3), h.p4 (hd 4), h.p5 (hd 5), h.p6 (hd 6), h.p7 (hd 7), h.p8 (hd 8), h.p9 (hd 9), h.p10 (hd 10), h.p11 (hd 11), h.p12 (hd 12), h.p13 (hd 13), h.p14 (hd 14), h.p15 (hd 15), h.p16 (hd 16), h.p17 (hd 17), h.p18 (hd 18), trivial⟩
    simp only [List.foldl_cons, List.foldl_nil, List.setIfInBounds_toArray, List.set_cons_succ, List.set_cons_zero] at hfe
    have hbc := h.bel
    subst hfe
    clear h hdn hd hall
    have HBF := Lib.hid (HBA.out.trans (hbc.mono HBA.out.size))
    clear hbc
    go_wp2_with fail
    go_ret
    exact ⟨ret_bool HM.out, HBF.out⟩
  ·have hl' : decide (la ≤ ub) = false := decide_eq_false hl
   have HM : Hid (false = Sg.meetB ⟨ka, sa, la, ua⟩ ⟨ka, sa, lb, ub⟩) := Lib.hid (by simp [Sg.meetB, hl])
   clear hl
   go_enter Tryz.func85, Tryz.ntmps85
   go_upto_region 1 with fail
   rw [← HWA.out]
   refine wp_region_inv2T (fun T0 => MtbI T0 wA ka sa la ua ka sa lb ub w.heap.size (w.heap.size + 1) false) (by kernel_rfl) (by kernel_rfl) ?g0b ?gstepb ?gendb
   case g0b =>
    have hno : ∀ j, ¬ dn (Array.replicate 20 false) j := by
     intro j; unfold dn; by_cases hj : j < 20 <;> simp [Array.getD, hj]
    have na : ∀ {j : Nat} {Z : Prop}, dn (Array.replicate 20 false) j → Z := fun hj => absurd hj (hno _)
    exact ⟨_, rfl, { bel := (Below.refl _ _).drew, siz := rfl, kp := fun _ _ => rfl, k2 := rfl, k3 := rfl, p0 := na, p1 := na, p2 := na, p3 := na, p4 := na, p5 := na, p6 := na, p7 := na, p8 := na, p9 := na, p10 := na, p11 := na, p12 := na, p13 := na, p14 := na, p15 := na, p16 := na, p17 := na, p18 := na, p19 := na }⟩
   case gstepb =>
    intro T0 d a wc i hd hI hi
    obtain ⟨hlt, hnd, hpre⟩ := mem_ready hi
    have hd' : d.size = 20 := hd
    have hin : i < 20 := hlt
    clear hi hd hlt
    obtain ⟨t, rfl, h⟩ := hI
    have hcs : i = 0 ∨ i = 1 ∨ i = 2 ∨ i = 3 ∨ i = 4 ∨ i = 5 ∨ i = 6 ∨ i = 7 ∨ i = 8 ∨ i = 9 ∨ i = 10 ∨ i = 11 ∨ i = 12 ∨ i = 13 ∨ i = 14 ∨ i = 15 ∨ i = 16 ∨ i = 17 ∨ i = 18 ∨ i = 19 := by omega
    rcases hcs with rfl | rfl | rfl | rfl | rfl | rfl | rfl | rfl | rfl | rfl | rfl | rfl | rfl | rfl | rfl | rfl | rfl | rfl | rfl | rfl
    ·have hi : 0 < d.size := by omega
     have q2 := h.k2
     obtain ⟨m0, m1, m2, m3, n0, n1, n2, n3⟩ := CA.out wc h.bel
     refine wpOp_plain rfl rfl ?_
     go_simp
     exact ⟨_, rfl, { bel := h.bel, siz := (by simpa using h.siz), kp := rk h.kp, k2 := rs h.k2, k3 := rs h.k3, p0 := fun _ => set_same (by have := h.siz; omega), p1 := rp hi h.p1, p2 := rp hi h.p2, p3 := rp hi h.p3, p4 := rp hi h.p4, p5 := rp hi h.p5, p6 := rp hi h.p6, p7 := rp hi h.p7, p8 := rp hi h.p8, p9 := rp hi h.p9, p10 := rp hi h.p10, p11 := rp hi h.p11, p12 := rp hi h.p12, p13 := rp hi h.p13, p14 := rp hi h.p14, p15 := rp hi h.p15, p16 := rp hi h.p16, p17 := rp hi h.p17, p18 := rp hi h.p18, p19 := rp hi h.p19 }⟩
    ·have hi : 1 < d.size := by omega
     have e0 := h.p0 (hpre _ rfl ⟨0, .data⟩ (by simp) rfl)
     refine wpOp_plain rfl rfl ?_
     go_simp
     refine (gOf_any ⟨ka, sa, la, ua⟩ wc).mono ?_
     rintro e1 w1 ⟨rfl, hb⟩
     exact ⟨_, rfl, { bel := h.bel.trans (hb.mono h.bel.size), siz := (by simpa using h.siz), kp := rk h.kp, k2 := rs h.k2, k3 := rs h.k3, p0 := rp hi h.p0, p1 := fun _ => set_same (by have := h.siz; omega), p2 := rp hi h.p2, p3 := rp hi h.p3, p4 := rp hi h.p4, p5 := rp hi h.p5, p6 := rp hi h.p6, p7 := rp hi h.p7, p8 := rp hi h.p8, p9 := rp hi h.p9, p10 := rp hi h.p10, p11 := rp hi h.p11, p12 := rp hi h.p12, p13 := rp hi h.p13, p14 := rp hi h.p14, p15 := rp hi h.p15, p16 := rp hi h.p16, p17 := rp hi h.p17, p18 := rp hi h.p18, p19 := rp hi h.p19 }⟩
    ·have hi : 2 < d.size := by omega
     have q3 := h.k3
     obtain ⟨m0, m1, m2, m3, n0, n1, n2, n3⟩ := CA.out wc h.bel
     refine wpOp_plain rfl rfl ?_
     go_simp
     exact ⟨_, rfl, { bel := h.bel, siz := (by simpa using h.siz), kp := rk h.kp, k2 := rs h.k2, k3 := rs h.k3, p0 := rp hi h.p0, p1 := rp hi h.p1, p2 := fun _ => set_same (by have := h.siz; omega), p3 := rp hi h.p3, p4 := rp hi h.p4, p5 := rp hi h.p5, p6 := rp hi h.p6, p7 := rp hi h.p7, p8 := rp hi h.p8, p9 := rp hi h.p9, p10 := rp hi h.p10, p11 := rp hi h.p11, p12 := rp hi h.p12, p13 := rp hi h.p13, p14 := rp hi h.p14, p15 := rp hi h.p15, p16 := rp hi h.p16, p17 := rp hi h.p17, p18 := rp hi h.p18, p19 := rp hi h.p19 }⟩
    ·have hi : 3 < d.size := by omega
     have e2 := h.p2 (hpre _ rfl ⟨2, .data⟩ (by simp) rfl)
     refine wpOp_plain rfl rfl ?_
     go_simp
     refine (gOf_any ⟨ka, sa, lb, ub⟩ wc).mono ?_
     rintro e1 w1 ⟨rfl, hb⟩
     exact ⟨_, rfl, { bel := h.bel.trans (hb.mono h.bel.size), siz := (by simpa using h.siz), kp := rk h.kp, k2 := rs h.k2, k3 := rs h.k3, p0 := rp hi h.p0, p1 := rp hi h.p1, p2 := rp hi h.p2, p3 := fun _ => set_same (by have := h.siz; omega), p4 := rp hi h.p4, p5 := rp hi h.p5, p6 := rp hi h.p6, p7 := rp hi h.p7, p8 := rp hi h.p8, p9 := rp hi h.p9, p10 := rp hi h.p10, p11 := rp hi h.p11, p12 := rp hi h.p12, p13 := rp hi h.p13, p14 := rp hi h.p14, p15 := rp hi h.p15, p16 := rp hi h.p16, p17 := rp hi h.p17, p18 := rp hi h.p18, p19 := rp hi h.p19 }⟩
    ·have hi : 4 < d.size := by omega
     have e1 := h.p1 (hpre _ rfl ⟨1, .data⟩ (by simp) rfl)
     have e3 := h.p3 (hpre _ rfl ⟨3, .data⟩ (by simp) rfl)
     refine wpOp_plain rfl rfl ?_
     go_simp
     exact ⟨_, rfl, { bel := h.bel, siz := (by simpa using h.siz), kp := rk h.kp, k2 := rs h.k2, k3 := rs h.k3, p0 := rp hi h.p0, p1 := rp hi h.p1, p2 := rp hi h.p2, p3 := rp hi h.p3, p4 := fun _ => set_same (by have := h.siz; omega), p5 := rp hi h.p5, p6 := rp hi h.p6, p7 := rp hi h.p7, p8 := rp hi h.p8, p9 := rp hi h.p9, p10 := rp hi h.p10, p11 := rp hi h.p11, p12 := rp hi h.p12, p13 := rp hi h.p13, p14 := rp hi h.p14, p15 := rp hi h.p15, p16 := rp hi h.p16, p17 := rp hi h.p17, p18 := rp hi h.p18, p19 := rp hi h.p19 }⟩
    ·have hi : 5 < d.size := by omega
     have e4 := h.p4 (hpre _ rfl ⟨4, .data⟩ (by simp) rfl)
     refine wpOp_plain rfl rfl ?_
     go_simp
     exact ⟨_, rfl, { bel := h.bel, siz := (by simpa using h.siz), kp := rk h.kp, k2 := rs h.k2, k3 := rs h.k3, p0 := rp hi h.p0, p1 := rp hi h.p1, p2 := rp hi h.p2, p3 := rp hi h.p3, p4 := rp hi h.p4, p5 := fun _ => set_same (by have := h.siz; omega), p6 := rp hi h.p6, p7 := rp hi h.p7, p8 := rp hi h.p8, p9 := rp hi h.p9, p10 := rp hi h.p10, p11 := rp hi h.p11, p12 := rp hi h.p12, p13 := rp hi h.p13, p14 := rp hi h.p14, p15 := rp hi h.p15, p16 := rp hi h.p16, p17 := rp hi h.p17, p18 := rp hi h.p18, p19 := rp hi h.p19 }⟩
    ·have hi : 6 < d.size := by omega
     have q2 := h.k2
     refine wpOp_guard rfl (wanted_of (d := 10) rfl rfl (h.p5 (hpre _ rfl ⟨5, .guard⟩ (by simp) rfl))) ?_
     go_simp
     exact ⟨_, rfl, { bel := h.bel, siz := (by simpa using h.siz), kp := rk h.kp, k2 := rs h.k2, k3 := rs h.k3, p0 := rp hi h.p0, p1 := rp hi h.p1, p2 := rp hi h.p2, p3 := rp hi h.p3, p4 := rp hi h.p4, p5 := rp hi h.p5, p6 := fun _ => set_same (by have := h.siz; omega), p7 := rp hi h.p7, p8 := rp hi h.p8, p9 := rp hi h.p9, p10 := rp hi h.p10, p11 := rp hi h.p11, p12 := rp hi h.p12, p13 := rp hi h.p13, p14 := rp hi h.p14, p15 := rp hi h.p15, p16 := rp hi h.p16, p17 := rp hi h.p17, p18 := rp hi h.p18, p19 := rp hi h.p19 }⟩
    ·have hi : 7 < d.size := by omega
     have e6 := h.p6 (hpre _ rfl ⟨6, .data⟩ (by simp) rfl)
     obtain ⟨m0, m1, m2, m3, n0, n1, n2, n3⟩ := CA.out wc h.bel
     refine wpOp_guard rfl (wanted_of (d := 10) rfl rfl (h.p5 (hpre _ rfl ⟨5, .guard⟩ (by simp) rfl))) ?_
     go_simp
     exact ⟨_, rfl, { bel := h.bel, siz := (by simpa using h.siz), kp := rk h.kp, k2 := rs h.k2, k3 := rs h.k3, p0 := rp hi h.p0, p1 := rp hi h.p1, p2 := rp hi h.p2, p3 := rp hi h.p3, p4 := rp hi h.p4, p5 := rp hi h.p5, p6 := rp hi h.p6, p7 := fun _ => set_same (by have := h.siz; omega), p8 := rp hi h.p8, p9 := rp hi h.p9, p10 := rp hi h.p10, p11 := rp hi h.p11, p12 := rp hi h.p12, p13 := rp hi h.p13, p14 := rp hi h.p14, p15 := rp hi h.p15, p16 := rp hi h.p16, p17 := rp hi h.p17, p18 := rp hi h.p18, p19 := rp hi h.p19 }⟩
    ·have hi : 8 < d.size := by omega
     have q3 := h.k3
     refine wpOp_guard rfl (wanted_of (d := 10) rfl rfl (h.p5 (hpre _ rfl ⟨5, .guard⟩ (by simp) rfl))) ?_
     go_simp
     exact ⟨_, rfl, { bel := h.bel, siz := (by simpa using h.siz), kp := rk h.kp, k2 := rs h.k2, k3 := rs h.k3, p0 := rp hi h.p0, p1 := rp hi h.p1, p2 := rp hi h.p2, p3 := rp hi h.p3, p4 := rp hi h.p4, p5 := rp hi h.p5, p6 := rp hi h.p6, p7 := rp hi h.p7, p8 := fun _ => set_same (by have := h.siz; omega), p9 := rp hi h.p9, p10 := rp hi h.p10, p11 := rp hi h.p11, p12 := rp hi h.p12, p13 := rp hi h.p13, p14 := rp hi h.p14, p15 := rp hi h.p15, p16 := rp hi h.p16, p17 := rp hi h.p17, p18 := rp hi h.p18, p19 := rp hi h.p19 }⟩
    ·have hi : 9 < d.size := by omega
     have e8 := h.p8 (hpre _ rfl ⟨8, .data⟩ (by simp) rfl)
     obtain ⟨m0, m1, m2, m3, n0, n1, n2, n3⟩ := CA.out wc h.bel
     refine wpOp_guard rfl (wanted_of (d := 10) rfl rfl (h.p5 (hpre _ rfl ⟨5, .guard⟩ (by simp) rfl))) ?_
     go_simp
     exact ⟨_, rfl, { bel := h.bel, siz := (by simpa using h.siz), kp := rk h.kp, k2 := rs h.k2, k3 := rs h.k3, p0 := rp hi h.p0, p1 := rp hi h.p1, p2 := rp hi h.p2, p3 := rp hi h.p3, p4 := rp hi h.p4, p5 := rp hi h.p5, p6 := rp hi h.p6, p7 := rp hi h.p7, p8 := rp hi h.p8, p9 := fun _ => set_same (by have := h.siz; omega), p10 := rp hi h.p10, p11 := rp hi h.p11, p12 := rp hi h.p12, p13 := rp hi h.p13, p14 := rp hi h.p14, p15 := rp hi h.p15, p16 := rp hi h.p16, p17 := rp hi h.p17, p18 := rp hi h.p18, p19 := rp hi h.p19 }⟩
    ·have hi : 10 < d.size := by omega
     have e7 := h.p7 (hpre _ rfl ⟨7, .data⟩ (by simp) rfl)
     have e9 := h.p9 (hpre _ rfl ⟨9, .data⟩ (by simp) rfl)
     refine wpOp_guard rfl (wanted_of (d := 10) rfl rfl (h.p5 (hpre _ rfl ⟨5, .guard⟩ (by simp) rfl))) ?_
     go_simp
     exact ⟨_, rfl, { bel := h.bel, siz := (by simpa using h.siz), kp := rk h.kp, k2 := rs h.k2, k3 := rs h.k3, p0 := rp hi h.p0, p1 := rp hi h.p1, p2 := rp hi h.p2, p3 := rp hi h.p3, p4 := rp hi h.p4, p5 := rp hi h.p5, p6 := rp hi h.p6, p7 := rp hi h.p7, p8 := rp hi h.p8, p9 := rp hi h.p9, p10 := fun _ => set_same (by have := h.siz; omega), p11 := rp hi h.p11, p12 := rp hi h.p12, p13 := rp hi h.p13, p14 := rp hi h.p14, p15 := rp hi h.p15, p16 := rp hi h.p16, p17 := rp hi h.p17, p18 := rp hi h.p18, p19 := rp hi h.p19 }⟩
    ·have hi : 11 < d.size := by omega
     have e5 := h.p5 (hpre _ rfl ⟨5, .data⟩ (by simp) rfl)
     have e10 := h.p10 (hpre _ rfl ⟨10, .data⟩ (by simp) rfl)
     refine wpOp_plain rfl rfl ?_
     go_simp
     exact ⟨_, rfl, { bel := h.bel, siz := (by simpa using h.siz), kp := rk h.kp, k2 := rs h.k2, k3 := rs h.k3, p0 := rp hi h.p0, p1 := rp hi h.p1, p2 := rp hi h.p2, p3 := rp hi h.p3, p4 := rp hi h.p4, p5 := rp hi h.p5, p6 := rp hi h.p6, p7 := rp hi h.p7, p8 := rp hi h.p8, p9 := rp hi h.p9, p10 := rp hi h.p10, p11 := fun _ => set_same (by have := h.siz; omega), p12 := rp hi h.p12, p13 := rp hi h.p13, p14 := rp hi h.p14, p15 := rp hi h.p15, p16 := rp hi h.p16, p17 := rp hi h.p17, p18 := rp hi h.p18, p19 := rp hi h.p19 }⟩
    ·have hi : 12 < d.size := by omega
     have e11 := h.p11 (hpre _ rfl ⟨11, .data⟩ (by simp) rfl)
     refine wpOp_plain rfl rfl ?_
     go_simp
     exact ⟨_, rfl, { bel := h.bel, siz := (by simpa using h.siz), kp := rk h.kp, k2 := rs h.k2, k3 := rs h.k3, p0 := rp hi h.p0, p1 := rp hi h.p1, p2 := rp hi h.p2, p3 := rp hi h.p3, p4 := rp hi h.p4, p5 := rp hi h.p5, p6 := rp hi h.p6, p7 := rp hi h.p7, p8 := rp hi h.p8, p9 := rp hi h.p9, p10 := rp hi h.p10, p11 := rp hi h.p11, p12 := fun _ => set_same (by have := h.siz; omega), p13 := rp hi h.p13, p14 := rp hi h.p14, p15 := rp hi h.p15, p16 := rp hi h.p16, p17 := rp hi h.p17, p18 := rp hi h.p18, p19 := rp hi h.p19 }⟩
    ·have hi : 13 < d.size := by omega
     refine wpOp_idle rfl (unwanted_of (d := 17) rfl rfl (h.p12 (hpre _ rfl ⟨12, .guard⟩ (by simp) rfl)) (by decide)) ?_
     exact ⟨_, rfl, { bel := h.bel, siz := (by simpa using h.siz), kp := rk h.kp, k2 := rs h.k2, k3 := rs h.k3, p0 := rp hi h.p0, p1 := rp hi h.p1, p2 := rp hi h.p2, p3 := rp hi h.p3, p4 := rp hi h.p4, p5 := rp hi h.p5, p6 := rp hi h.p6, p7 := rp hi h.p7, p8 := rp hi h.p8, p9 := rp hi h.p9, p10 := rp hi h.p10, p11 := rp hi h.p11, p12 := rp hi h.p12, p13 := fun _ => set_same (by have := h.siz; show _ < t.size; omega), p14 := rp hi h.p14, p15 := rp hi h.p15, p16 := rp hi h.p16, p17 := rp hi h.p17, p18 := rp hi h.p18, p19 := rp hi h.p19 }⟩
    ·have hi : 14 < d.size := by omega
     refine wpOp_idle rfl (unwanted_of (d := 17) rfl rfl (h.p12 (hpre _ rfl ⟨12, .guard⟩ (by simp) rfl)) (by decide)) ?_
     exact ⟨_, rfl, { bel := h.bel, siz := (by simpa using h.siz), kp := rk h.kp, k2 := rs h.k2, k3 := rs h.k3, p0 := rp hi h.p0, p1 := rp hi h.p1, p2 := rp hi h.p2, p3 := rp hi h.p3, p4 := rp hi h.p4, p5 := rp hi h.p5, p6 := rp hi h.p6, p7 := rp hi h.p7, p8 := rp hi h.p8, p9 := rp hi h.p9, p10 := rp hi h.p10, p11 := rp hi h.p11, p12 := rp hi h.p12, p13 := rp hi h.p13, p14 := fun _ => set_same (by have := h.siz; show _ < t.size; omega), p15 := rp hi h.p15, p16 := rp hi h.p16, p17 := rp hi h.p17, p18 := rp hi h.p18, p19 := rp hi h.p19 }⟩
    ·have hi : 15 < d.size := by omega
     refine wpOp_idle rfl (unwanted_of (d := 17) rfl rfl (h.p12 (hpre _ rfl ⟨12, .guard⟩ (by simp) rfl)) (by decide)) ?_
     exact ⟨_, rfl, { bel := h.bel, siz := (by simpa using h.siz), kp := rk h.kp, k2 := rs h.k2, k3 := rs h.k3, p0 := rp hi h.p0, p1 := rp hi h.p1, p2 := rp hi h.p2, p3 := rp hi h.p3, p4 := rp hi h.p4, p5 := rp hi h.p5, p6 := rp hi h.p6, p7 := rp hi h.p7, p8 := rp hi h.p8, p9 := rp hi h.p9, p10 := rp hi h.p10, p11 := rp hi h.p11, p12 := rp hi h.p12, p13 := rp hi h.p13, p14 := rp hi h.p14, p15 := fun _ => set_same (by have := h.siz; show _ < t.size; omega), p16 := rp hi h.p16, p17 := rp hi h.p17, p18 := rp hi h.p18, p19 := rp hi h.p19 }⟩
    ·have hi : 16 < d.size := by omega
     refine wpOp_idle rfl (unwanted_of (d := 17) rfl rfl (h.p12 (hpre _ rfl ⟨12, .guard⟩ (by simp) rfl)) (by decide)) ?_
     exact ⟨_, rfl, { bel := h.bel, siz := (by simpa using h.siz), kp := rk h.kp, k2 := rs h.k2, k3 := rs h.k3, p0 := rp hi h.p0, p1 := rp hi h.p1, p2 := rp hi h.p2, p3 := rp hi h.p3, p4 := rp hi h.p4, p5 := rp hi h.p5, p6 := rp hi h.p6, p7 := rp hi h.p7, p8 := rp hi h.p8, p9 := rp hi h.p9, p10 := rp hi h.p10, p11 := rp hi h.p11, p12 := rp hi h.p12, p13 := rp hi h.p13, p14 := rp hi h.p14, p15 := rp hi h.p15, p16 := fun _ => set_same (by have := h.siz; show _ < t.size; omega), p17 := rp hi h.p17, p18 := rp hi h.p18, p19 := rp hi h.p19 }⟩
    ·have hi : 17 < d.size := by omega
     refine wpOp_idle rfl (unwanted_of (d := 17) rfl rfl (h.p12 (hpre _ rfl ⟨12, .guard⟩ (by simp) rfl)) (by decide)) ?_
     exact ⟨_, rfl, { bel := h.bel, siz := (by simpa using h.siz), kp := rk h.kp, k2 := rs h.k2, k3 := rs h.k3, p0 := rp hi h.p0, p1 := rp hi h.p1, p2 := rp hi h.p2, p3 := rp hi h.p3, p4 := rp hi h.p4, p5 := rp hi h.p5, p6 := rp hi h.p6, p7 := rp hi h.p7, p8 := rp hi h.p8, p9 := rp hi h.p9, p10 := rp hi h.p10, p11 := rp hi h.p11, p12 := rp hi h.p12, p13 := rp hi h.p13, p14 := rp hi h.p14, p15 := rp hi h.p15, p16 := rp hi h.p16, p17 := fun _ => set_same (by have := h.siz; show _ < t.size; omega), p18 := rp hi h.p18, p19 := rp hi h.p19 }⟩
    ·have hi : 18 < d.size := by omega
     have e12 := h.p12 (hpre _ rfl ⟨12, .data⟩ (by simp) rfl)
     have e17 := h.p17 (hpre _ rfl ⟨17, .data⟩ (by simp) rfl)
     refine wpOp_plain rfl rfl ?_
     go_simp
     exact ⟨_, rfl, { bel := h.bel, siz := (by simpa using h.siz), kp := rk h.kp, k2 := rs h.k2, k3 := rs h.k3, p0 := rp hi h.p0, p1 := rp hi h.p1, p2 := rp hi h.p2, p3 := rp hi h.p3, p4 := rp hi h.p4, p5 := rp hi h.p5, p6 := rp hi h.p6, p7 := rp hi h.p7, p8 := rp hi h.p8, p9 := rp hi h.p9, p10 := rp hi h.p10, p11 := rp hi h.p11, p12 := rp hi h.p12, p13 := rp hi h.p13, p14 := rp hi h.p14, p15 := rp hi h.p15, p16 := rp hi h.p16, p17 := rp hi h.p17, p18 := fun _ => set_same (by have := h.siz; omega), p19 := rp hi h.p19 }⟩
    ·have hi : 19 < d.size := by omega
     have e18 := h.p18 (hpre _ rfl ⟨18, .data⟩ (by simp) rfl)
     refine wpOp_plain rfl rfl ?_
     go_simp
     exact ⟨_, rfl, { bel := h.bel, siz := (by simpa using h.siz), kp := rk h.kp, k2 := rs h.k2, k3 := rs h.k3, p0 := rp hi h.p0, p1 := rp hi h.p1, p2 := rp hi h.p2, p3 := rp hi h.p3, p4 := rp hi h.p4, p5 := rp hi h.p5, p6 := rp hi h.p6, p7 := rp hi h.p7, p8 := rp hi h.p8, p9 := rp hi h.p9, p10 := rp hi h.p10, p11 := rp hi h.p11, p12 := rp hi h.p12, p13 := rp hi h.p13, p14 := rp hi h.p14, p15 := rp hi h.p15, p16 := rp hi h.p16, p17 := rp hi h.p17, p18 := rp hi h.p18, p19 := fun _ => set_same (by have := h.siz; omega) }⟩
   case gendb =>
    intro d a wc hd hI hall
    obtain ⟨t, rfl, h⟩ := hI
    have hdn : ∀ j, j < 20 → dn d j := fun j hj => dn_all hd hall hj
    have hd : ∀ j, (_ : j < 20 := by decide) → dn d j := fun j hj => hdn j hj
    have hfe := frame_eq [(4, _), (5, _), (6, _), (7, _), (8, _), (9, _), (10, _), (11, _), (12, _), (13, _), (14, _), (15, _), (16, _), (17, _), (18, _), (19, _), (20, _), (21, _), (22, _), (23, _)] (h.siz.trans rfl) h.kp rfl ⟨h.p19 (hd 19), h.p0 (hd 0), h.p1 (hd 1), h.p2 (hd 2), h.p3 (hd 3), h.p4 (hd 4), h.p5 (hd 5), h.p6 (hd 6), h.p7 (hd 7), h.p8 (hd 8), h.p9 (hd 9), h.p10 (hd 10), h.p11 (hd 11), h.p12 (hd 12), h.p13 (hd 13), h.p14 (hd 14), h.p15 (hd 15), h.p16 (hd 16), h.p17 (hd 17), h.p18 (hd 18), trivial⟩
    simp only [List.foldl_cons, List.foldl_nil, List.setIfInBounds_toArray, List.set_cons_succ, List.set_cons_zero] at hfe
    have hbc := h.bel
    subst hfe
    clear h hdn hd hall
    have HBF := Lib.hid (HBA.out.trans (hbc.mono HBA.out.size))
    clear hbc
    go_wp2_with fail
    go_ret
    exact ⟨ret_bool HM.out, HBF.out⟩
 ·have HM : Hid (false = Sg.meetB ⟨ka, sa, la, ua⟩ ⟨kb, sb, lb, ub⟩) := Lib.hid (by
   have : ¬ (ka = kb ∧ sa = sb) := hn
   simp only [Sg.meetB]
   by_cases e : ka = kb
   ·have : ¬ sa = sb := fun q => hn ⟨e, q⟩
    simp [this]
   ·simp [e])
  by_cases hk : ka = kb
  ·have ht : (sa.toList == sb.toList) = false := Lx.toList_ne fun q => hn ⟨hk, q⟩
   subst hk
   clear hn
   go_enter Tryz.func85, Tryz.ntmps85
   go_upto_region 1 with fail
   rw [← HWA.out]
   refine wp_region_inv2T (fun T0 => MtaI T0 wA ka sa la ua ka sb lb ub w.heap.size (w.heap.size + 1) false) (by kernel_rfl) (by kernel_rfl) ?g0a ?gstepa ?genda
   case g0a =>
    have hno : ∀ j, ¬ dn (Array.replicate 20 false) j := by
     intro j; unfold dn; by_cases hj : j < 20 <;> simp [Array.getD, hj]
    have na : ∀ {j : Nat} {Z : Prop}, dn (Array.replicate 20 false) j → Z := fun hj => absurd hj (hno _)
    exact ⟨_, rfl, { bel := (Below.refl _ _).drew, siz := rfl, kp := fun _ _ => rfl, k2 := rfl, k3 := rfl, p0 := na, p1 := na, p2 := na, p3 := na, p4 := na, p5 := na, p6 := na, p7 := na, p8 := na, p9 := na, p10 := na, p11 := na, p12 := na, p13 := na, p14 := na, p15 := na, p16 := na, p17 := na, p18 := na, p19 := na }⟩
   case gstepa =>
    intro T0 d a wc i hd hI hi
    obtain ⟨hlt, hnd, hpre⟩ := mem_ready hi
    have hd' : d.size = 20 := hd
    have hin : i < 20 := hlt
    clear hi hd hlt
    obtain ⟨t, rfl, h⟩ := hI
    have hcs : i = 0 ∨ i = 1 ∨ i = 2 ∨ i = 3 ∨ i = 4 ∨ i = 5 ∨ i = 6 ∨ i = 7 ∨ i = 8 ∨ i = 9 ∨ i = 10 ∨ i = 11 ∨ i = 12 ∨ i = 13 ∨ i = 14 ∨ i = 15 ∨ i = 16 ∨ i = 17 ∨ i = 18 ∨ i = 19 := by omega
    rcases hcs with rfl | rfl | rfl | rfl | rfl | rfl | rfl | rfl | rfl | rfl | rfl | rfl | rfl | rfl | rfl | rfl | rfl | rfl | rfl | rfl
    ·have hi : 0 < d.size := by omega
     have q2 := h.k2
     obtain ⟨m0, m1, m2, m3, n0, n1, n2, n3⟩ := CA.out wc h.bel
     refine wpOp_plain rfl rfl ?_
     go_simp
     exact ⟨_, rfl, { bel := h.bel, siz := (by simpa using h.siz), kp := rk h.kp, k2 := rs h.k2, k3 := rs h.k3, p0 := fun _ => set_same (by have := h.siz; omega), p1 := rp hi h.p1, p2 := rp hi h.p2, p3 := rp hi h.p3, p4 := rp hi h.p4, p5 := rp hi h.p5, p6 := rp hi h.p6, p7 := rp hi h.p7, p8 := rp hi h.p8, p9 := rp hi h.p9, p10 := rp hi h.p10, p11 := rp hi h.p11, p12 := rp hi h.p12, p13 := rp hi h.p13, p14 := rp hi h.p14, p15 := rp hi h.p15, p16 := rp hi h.p16, p17 := rp hi h.p17, p18 := rp hi h.p18, p19 := rp hi h.p19 }⟩
    ·have hi : 1 < d.size := by omega
     have e0 := h.p0 (hpre _ rfl ⟨0, .data⟩ (by simp) rfl)
     refine wpOp_plain rfl rfl ?_
     go_simp
     refine (gOf_any ⟨ka, sa, la, ua⟩ wc).mono ?_
     rintro e1 w1 ⟨rfl, hb⟩
     exact ⟨_, rfl, { bel := h.bel.trans (hb.mono h.bel.size), siz := (by simpa using h.siz), kp := rk h.kp, k2 := rs h.k2, k3 := rs h.k3, p0 := rp hi h.p0, p1 := fun _ => set_same (by have := h.siz; omega), p2 := rp hi h.p2, p3 := rp hi h.p3, p4 := rp hi h.p4, p5 := rp hi h.p5, p6 := rp hi h.p6, p7 := rp hi h.p7, p8 := rp hi h.p8, p9 := rp hi h.p9, p10 := rp hi h.p10, p11 := rp hi h.p11, p12 := rp hi h.p12, p13 := rp hi h.p13, p14 := rp hi h.p14, p15 := rp hi h.p15, p16 := rp hi h.p16, p17 := rp hi h.p17, p18 := rp hi h.p18, p19 := rp hi h.p19 }⟩
    ·have hi : 2 < d.size := by omega
     have q3 := h.k3
     obtain ⟨m0, m1, m2, m3, n0, n1, n2, n3⟩ := CA.out wc h.bel
     refine wpOp_plain rfl rfl ?_
     go_simp
     exact ⟨_, rfl, { bel := h.bel, siz := (by simpa using h.siz), kp := rk h.kp, k2 := rs h.k2, k3 := rs h.k3, p0 := rp hi h.p0, p1 := rp hi h.p1, p2 := fun _ => set_same (by have := h.siz; omega), p3 := rp hi h.p3, p4 := rp hi h.p4, p5 := rp hi h.p5, p6 := rp hi h.p6, p7 := rp hi h.p7, p8 := rp hi h.p8, p9 := rp hi h.p9, p10 := rp hi h.p10, p11 := rp hi h.p11, p12 := rp hi h.p12, p13 := rp hi h.p13, p14 := rp hi h.p14, p15 := rp hi h.p15, p16 := rp hi h.p16, p17 := rp hi h.p17, p18 := rp hi h.p18, p19 := rp hi h.p19 }⟩
    ·have hi : 3 < d.size := by omega
     have e2 := h.p2 (hpre _ rfl ⟨2, .data⟩ (by simp) rfl)
     refine wpOp_plain rfl rfl ?_
     go_simp
     refine (gOf_any ⟨ka, sb, lb, ub⟩ wc).mono ?_
     rintro e1 w1 ⟨rfl, hb⟩
     exact ⟨_, rfl, { bel := h.bel.trans (hb.mono h.bel.size), siz := (by simpa using h.siz), kp := rk h.kp, k2 := rs h.k2, k3 := rs h.k3, p0 := rp hi h.p0, p1 := rp hi h.p1, p2 := rp hi h.p2, p3 := fun _ => set_same (by have := h.siz; omega), p4 := rp hi h.p4, p5 := rp hi h.p5, p6 := rp hi h.p6, p7 := rp hi h.p7, p8 := rp hi h.p8, p9 := rp hi h.p9, p10 := rp hi h.p10, p11 := rp hi h.p11, p12 := rp hi h.p12, p13 := rp hi h.p13, p14 := rp hi h.p14, p15 := rp hi h.p15, p16 := rp hi h.p16, p17 := rp hi h.p17, p18 := rp hi h.p18, p19 := rp hi h.p19 }⟩
    ·have hi : 4 < d.size := by omega
     have e1 := h.p1 (hpre _ rfl ⟨1, .data⟩ (by simp) rfl)
     have e3 := h.p3 (hpre _ rfl ⟨3, .data⟩ (by simp) rfl)
     refine wpOp_plain rfl rfl ?_
     go_simp
     exact ⟨_, rfl, { bel := h.bel, siz := (by simpa using h.siz), kp := rk h.kp, k2 := rs h.k2, k3 := rs h.k3, p0 := rp hi h.p0, p1 := rp hi h.p1, p2 := rp hi h.p2, p3 := rp hi h.p3, p4 := fun _ => set_same (by have := h.siz; omega), p5 := rp hi h.p5, p6 := rp hi h.p6, p7 := rp hi h.p7, p8 := rp hi h.p8, p9 := rp hi h.p9, p10 := rp hi h.p10, p11 := rp hi h.p11, p12 := rp hi h.p12, p13 := rp hi h.p13, p14 := rp hi h.p14, p15 := rp hi h.p15, p16 := rp hi h.p16, p17 := rp hi h.p17, p18 := rp hi h.p18, p19 := rp hi h.p19 }⟩
    ·have hi : 5 < d.size := by omega
     have e4 := h.p4 (hpre _ rfl ⟨4, .data⟩ (by simp) rfl)
     refine wpOp_plain rfl rfl ?_
     go_simp
     exact ⟨_, rfl, { bel := h.bel, siz := (by simpa using h.siz), kp := rk h.kp, k2 := rs h.k2, k3 := rs h.k3, p0 := rp hi h.p0, p1 := rp hi h.p1, p2 := rp hi h.p2, p3 := rp hi h.p3, p4 := rp hi h.p4, p5 := fun _ => set_same (by have := h.siz; omega), p6 := rp hi h.p6, p7 := rp hi h.p7, p8 := rp hi h.p8, p9 := rp hi h.p9, p10 := rp hi h.p10, p11 := rp hi h.p11, p12 := rp hi h.p12, p13 := rp hi h.p13, p14 := rp hi h.p14, p15 := rp hi h.p15, p16 := rp hi h.p16, p17 := rp hi h.p17, p18 := rp hi h.p18, p19 := rp hi h.p19 }⟩
    ·have hi : 6 < d.size := by omega
     refine wpOp_idle rfl (unwanted_of (d := 10) rfl rfl (h.p5 (hpre _ rfl ⟨5, .guard⟩ (by simp) rfl)) (by decide)) ?_
     exact ⟨_, rfl, { bel := h.bel, siz := (by simpa using h.siz), kp := rk h.kp, k2 := rs h.k2, k3 := rs h.k3, p0 := rp hi h.p0, p1 := rp hi h.p1, p2 := rp hi h.p2, p3 := rp hi h.p3, p4 := rp hi h.p4, p5 := rp hi h.p5, p6 := fun _ => set_same (by have := h.siz; show _ < t.size; omega), p7 := rp hi h.p7, p8 := rp hi h.p8, p9 := rp hi h.p9, p10 := rp hi h.p10, p11 := rp hi h.p11, p12 := rp hi h.p12, p13 := rp hi h.p13, p14 := rp hi h.p14, p15 := rp hi h.p15, p16 := rp hi h.p16, p17 := rp hi h.p17, p18 := rp hi h.p18, p19 := rp hi h.p19 }⟩
    ·have hi : 7 < d.size := by omega
     refine wpOp_idle rfl (unwanted_of (d := 10) rfl rfl (h.p5 (hpre _ rfl ⟨5, .guard⟩ (by simp) rfl)) (by decide)) ?_
     exact ⟨_, rfl, { bel := h.bel, siz := (by simpa using h.siz), kp := rk h.kp, k2 := rs h.k2, k3 := rs h.k3, p0 := rp hi h.p0, p1 := rp hi h.p1, p2 := rp hi h.p2, p3 := rp hi h.p3, p4 := rp hi h.p4, p5 := rp hi h.p5, p6 := rp hi h.p6, p7 := fun _ => set_same (by have := h.siz; show _ < t.size; omega), p8 := rp hi h.p8, p9 := rp hi h.p9, p10 := rp hi h.p10, p11 := rp hi h.p11, p12 := rp hi h.p12, p13 := rp hi h.p13, p14 := rp hi h.p14, p15 := rp hi h.p15, p16 := rp hi h.p16, p17 := rp hi h.p17, p18 := rp hi h.p18, p19 := rp hi h.p19 }⟩
    ·have hi : 8 < d.size := by omega
     refine wpOp_idle rfl (unwanted_of (d := 10) rfl rfl (h.p5 (hpre _ rfl ⟨5, .guard⟩ (by simp) rfl)) (by decide)) ?_
     exact ⟨_, rfl, { bel := h.bel, siz := (by simpa using h.siz), kp := rk h.kp, k2 := rs h.k2, k3 := rs h.k3, p0 := rp hi h.p0, p1 := rp hi h.p1, p2 := rp hi h.p2, p3 := rp hi h.p3, p4 := rp hi h.p4, p5 := rp hi h.p5, p6 := rp hi h.p6, p7 := rp hi h.p7, p8 := fun _ => set_same (by have := h.siz; show _ < t.size; omega), p9 := rp hi h.p9, p10 := rp hi h.p10, p11 := rp hi h.p11, p12 := rp hi h.p12, p13 := rp hi h.p13, p14 := rp hi h.p14, p15 := rp hi h.p15, p16 := rp hi h.p16, p17 := rp hi h.p17, p18 := rp hi h.p18, p19 := rp hi h.p19 }⟩
    ·have hi : 9 < d.size := by omega
     refine wpOp_idle rfl (unwanted_of (d := 10) rfl rfl (h.p5 (hpre _ rfl ⟨5, .guard⟩ (by simp) rfl)) (by decide)) ?_
     exact ⟨_, rfl, { bel := h.bel, siz := (by simpa using h.siz), kp := rk h.kp, k2 := rs h.k2, k3 := rs h.k3, p0 := rp hi h.p0, p1 := rp hi h.p1, p2 := rp hi h.p2, p3 := rp hi h.p3, p4 := rp hi h.p4, p5 := rp hi h.p5, p6 := rp hi h.p6, p7 := rp hi h.p7, p8 := rp hi h.p8, p9 := fun _ => set_same (by have := h.siz; show _ < t.size; omega), p10 := rp hi h.p10, p11 := rp hi h.p11, p12 := rp hi h.p12, p13 := rp hi h.p13, p14 := rp hi h.p14, p15 := rp hi h.p15, p16 := rp hi h.p16, p17 := rp hi h.p17, p18 := rp hi h.p18, p19 := rp hi h.p19 }⟩
    ·have hi : 10 < d.size := by omega
     refine wpOp_idle rfl (unwanted_of (d := 10) rfl rfl (h.p5 (hpre _ rfl ⟨5, .guard⟩ (by simp) rfl)) (by decide)) ?_
     exact ⟨_, rfl, { bel := h.bel, siz := (by simpa using h.siz), kp := rk h.kp, k2 := rs h.k2, k3 := rs h.k3, p0 := rp hi h.p0, p1 := rp hi h.p1, p2 := rp hi h.p2, p3 := rp hi h.p3, p4 := rp hi h.p4, p5 := rp hi h.p5, p6 := rp hi h.p6, p7 := rp hi h.p7, p8 := rp hi h.p8, p9 := rp hi h.p9, p10 := fun _ => set_same (by have := h.siz; show _ < t.size; omega), p11 := rp hi h.p11, p12 := rp hi h.p12, p13 := rp hi h.p13, p14 := rp hi h.p14, p15 := rp hi h.p15, p16 := rp hi h.p16, p17 := rp hi h.p17, p18 := rp hi h.p18, p19 := rp hi h.p19 }⟩
    ·have hi : 11 < d.size := by omega
     have e5 := h.p5 (hpre _ rfl ⟨5, .data⟩ (by simp) rfl)
     have e10 := h.p10 (hpre _ rfl ⟨10, .data⟩ (by simp) rfl)
     refine wpOp_plain rfl rfl ?_
     go_simp
     exact ⟨_, rfl, { bel := h.bel, siz := (by simpa using h.siz), kp := rk h.kp, k2 := rs h.k2, k3 := rs h.k3, p0 := rp hi h.p0, p1 := rp hi h.p1, p2 := rp hi h.p2, p3 := rp hi h.p3, p4 := rp hi h.p4, p5 := rp hi h.p5, p6 := rp hi h.p6, p7 := rp hi h.p7, p8 := rp hi h.p8, p9 := rp hi h.p9, p10 := rp hi h.p10, p11 := fun _ => set_same (by have := h.siz; omega), p12 := rp hi h.p12, p13 := rp hi h.p13, p14 := rp hi h.p14, p15 := rp hi h.p15, p16 := rp hi h.p16, p17 := rp hi h.p17, p18 := rp hi h.p18, p19 := rp hi h.p19 }⟩
    ·have hi : 12 < d.size := by omega
     have e11 := h.p11 (hpre _ rfl ⟨11, .data⟩ (by simp) rfl)
     refine wpOp_plain rfl rfl ?_
     go_simp
     exact ⟨_, rfl, { bel := h.bel, siz := (by simpa using h.siz), kp := rk h.kp, k2 := rs h.k2, k3 := rs h.k3, p0 := rp hi h.p0, p1 := rp hi h.p1, p2 := rp hi h.p2, p3 := rp hi h.p3, p4 := rp hi h.p4, p5 := rp hi h.p5, p6 := rp hi h.p6, p7 := rp hi h.p7, p8 := rp hi h.p8, p9 := rp hi h.p9, p10 := rp hi h.p10, p11 := rp hi h.p11, p12 := fun _ => set_same (by have := h.siz; omega), p13 := rp hi h.p13, p14 := rp hi h.p14, p15 := rp hi h.p15, p16 := rp hi h.p16, p17 := rp hi h.p17, p18 := rp hi h.p18, p19 := rp hi h.p19 }⟩
    ·have hi : 13 < d.size := by omega
     refine wpOp_idle rfl (unwanted_of (d := 17) rfl rfl (h.p12 (hpre _ rfl ⟨12, .guard⟩ (by simp) rfl)) (by decide)) ?_
     exact ⟨_, rfl, { bel := h.bel, siz := (by simpa using h.siz), kp := rk h.kp, k2 := rs h.k2, k3 := rs h.k3, p0 := rp hi h.p0, p1 := rp hi h.p1, p2 := rp hi h.p2, p3 := rp hi h.p3, p4 := rp hi h.p4, p5 := rp hi h.p5, p6 := rp hi h.p6, p7 := rp hi h.p7, p8 := rp hi h.p8, p9 := rp hi h.p9, p10 := rp hi h.p10, p11 := rp hi h.p11, p12 := rp hi h.p12, p13 := fun _ => set_same (by have := h.siz; show _ < t.size; omega), p14 := rp hi h.p14, p15 := rp hi h.p15, p16 := rp hi h.p16, p17 := rp hi h.p17, p18 := rp hi h.p18, p19 := rp hi h.p19 }⟩
    ·have hi : 14 < d.size := by omega
     refine wpOp_idle rfl (unwanted_of (d := 17) rfl rfl (h.p12 (hpre _ rfl ⟨12, .guard⟩ (by simp) rfl)) (by decide)) ?_
     exact ⟨_, rfl, { bel := h.bel, siz := (by simpa using h.siz), kp := rk h.kp, k2 := rs h.k2, k3 := rs h.k3, p0 := rp hi h.p0, p1 := rp hi h.p1, p2 := rp hi h.p2, p3 := rp hi h.p3, p4 := rp hi h.p4, p5 := rp hi h.p5, p6 := rp hi h.p6, p7 := rp hi h.p7, p8 := rp hi h.p8, p9 := rp hi h.p9, p10 := rp hi h.p10, p11 := rp hi h.p11, p12 := rp hi h.p12, p13 := rp hi h.p13, p14 := fun _ => set_same (by have := h.siz; show _ < t.size; omega), p15 := rp hi h.p15, p16 := rp hi h.p16, p17 := rp hi h.p17, p18 := rp hi h.p18, p19 := rp hi h.p19 }⟩
    ·have hi : 15 < d.size := by omega
     refine wpOp_idle rfl (unwanted_of (d := 17) rfl rfl (h.p12 (hpre _ rfl ⟨12, .guard⟩ (by simp) rfl)) (by decide)) ?_
     exact ⟨_, rfl, { bel := h.bel, siz := (by simpa using h.siz), kp := rk h.kp, k2 := rs h.k2, k3 := rs h.k3, p0 := rp hi h.p0, p1 := rp hi h.p1, p2 := rp hi h.p2, p3 := rp hi h.p3, p4 := rp hi h.p4, p5 := rp hi h.p5, p6 := rp hi h.p6, p7 := rp hi h.p7, p8 := rp hi h.p8, p9 := rp hi h.p9, p10 := rp hi h.p10, p11 := rp hi h.p11, p12 := rp hi h.p12, p13 := rp hi h.p13, p14 := rp hi h.p14, p15 := fun _ => set_same (by have := h.siz; show _ < t.size; omega), p16 := rp hi h.p16, p17 := rp hi h.p17, p18 := rp hi h.p18, p19 := rp hi h.p19 }⟩
    ·have hi : 16 < d.size := by omega
     refine wpOp_idle rfl (unwanted_of (d := 17) rfl rfl (h.p12 (hpre _ rfl ⟨12, .guard⟩ (by simp) rfl)) (by decide)) ?_
     exact ⟨_, rfl, { bel := h.bel, siz := (by simpa using h.siz), kp := rk h.kp, k2 := rs h.k2, k3 := rs h.k3, p0 := rp hi h.p0, p1 := rp hi h.p1, p2 := rp hi h.p2, p3 := rp hi h.p3, p4 := rp hi h.p4, p5 := rp hi h.p5, p6 := rp hi h.p6, p7 := rp hi h.p7, p8 := rp hi h.p8, p9 := rp hi h.p9, p10 := rp hi h.p10, p11 := rp hi h.p11, p12 := rp hi h.p12, p13 := rp hi h.p13, p14 := rp hi h.p14, p15 := rp hi h.p15, p16 := fun _ => set_same (by have := h.siz; show _ < t.size; omega), p17 := rp hi h.p17, p18 := rp hi h.p18, p19 := rp hi h.p19 }⟩
    ·have hi : 17 < d.size := by omega
     refine wpOp_idle rfl (unwanted_of (d := 17) rfl rfl (h.p12 (hpre _ rfl ⟨12, .guard⟩ (by simp) rfl)) (by decide)) ?_
     exact ⟨_, rfl, { bel := h.bel, siz := (by simpa using h.siz), kp := rk h.kp, k2 := rs h.k2, k3 := rs h.k3, p0 := rp hi h.p0, p1 := rp hi h.p1, p2 := rp hi h.p2, p3 := rp hi h.p3, p4 := rp hi h.p4, p5 := rp hi h.p5, p6 := rp hi h.p6, p7 := rp hi h.p7, p8 := rp hi h.p8, p9 := rp hi h.p9, p10 := rp hi h.p10, p11 := rp hi h.p11, p12 := rp hi h.p12, p13 := rp hi h.p13, p14 := rp hi h.p14, p15 := rp hi h.p15, p16 := rp hi h.p16, p17 := fun _ => set_same (by have := h.siz; show _ < t.size; omega), p18 := rp hi h.p18, p19 := rp hi h.p19 }⟩
    ·have hi : 18 < d.size := by omega
     have e12 := h.p12 (hpre _ rfl ⟨12, .data⟩ (by simp) rfl)
     have e17 := h.p17 (hpre _ rfl ⟨17, .data⟩ (by simp) rfl)
     refine wpOp_plain rfl rfl ?_
     go_simp
     exact ⟨_, rfl, { bel := h.bel, siz := (by simpa using h.siz), kp := rk h.kp, k2 := rs h.k2, k3 := rs h.k3, p0 := rp hi h.p0, p1 := rp hi h.p1, p2 := rp hi h.p2, p3 := rp hi h.p3, p4 := rp hi h.p4, p5 := rp hi h.p5, p6 := rp hi h.p6, p7 := rp hi h.p7, p8 := rp hi h.p8, p9 := rp hi h.p9, p10 := rp hi h.p10, p11 := rp hi h.p11, p12 := rp hi h.p12, p13 := rp hi h.p13, p14 := rp hi h.p14, p15 := rp hi h.p15, p16 := rp hi h.p16, p17 := rp hi h.p17, p18 := fun _ => set_same (by have := h.siz; omega), p19 := rp hi h.p19 }⟩
    ·have hi : 19 < d.size := by omega
     have e18 := h.p18 (hpre _ rfl ⟨18, .data⟩ (by simp) rfl)
     refine wpOp_plain rfl rfl ?_
     go_simp
     exact ⟨_, rfl, { bel := h.bel, siz := (by simpa using h.siz), kp := rk h.kp, k2 := rs h.k2, k3 := rs h.k3, p0 := rp hi h.p0, p1 := rp hi h.p1, p2 := rp hi h.p2, p3 := rp hi h.p3, p4 := rp hi h.p4, p5 := rp hi h.p5, p6 := rp hi h.p6, p7 := rp hi h.p7, p8 := rp hi h.p8, p9 := rp hi h.p9, p10 := rp hi h.p10, p11 := rp hi h.p11, p12 := rp hi h.p12, p13 := rp hi h.p13, p14 := rp hi h.p14, p15 := rp hi h.p15, p16 := rp hi h.p16, p17 := rp hi h.p17, p18 := rp hi h.p18, p19 := fun _ => set_same (by have := h.siz; omega) }⟩
   case genda =>
    intro d a wc hd hI hall
    obtain ⟨t, rfl, h⟩ := hI
    have hdn : ∀ j, j < 20 → dn d j := fun j hj => dn_all hd hall hj
    have hd : ∀ j, (_ : j < 20 := by decide) → dn d j := fun j hj => hdn j hj
    have hfe := frame_eq [(4, _), (5, _), (6, _), (7, _), (8, _), (9, _), (10, _), (11, _), (12, _), (13, _), (14, _), (15, _), (16, _), (17, _), (18, _), (19, _), (20, _), (21, _), (22, _), (23, _)] (h.siz.trans rfl) h.kp rfl ⟨h.p19 (hd 19), h.p0 (hd 0), h.p1 (hd 1), h.p2 (hd 2), h.p3 (hd 3), h.p4 (hd 4), h.p5 (hd 5), h.p6 (hd 6), h.p7 (hd 7), h.p8 (hd 8), h.p9 (hd 9), h.p10 (hd 10), h.p11 (hd 11), h.p12 (hd 12), h.p13 (hd 13), h.p14 (hd 14), h.p15 (hd 15), h.p16 (hd 16), h.p17 (hd 17), h.p18 (hd 18), trivial⟩
    simp only [List.foldl_cons, List.foldl_nil, List.setIfInBounds_toArray, List.set_cons_succ, List.set_cons_zero] at hfe
    have hbc := h.bel
    subst hfe
    clear h hdn hd hall
    have HBF := Lib.hid (HBA.out.trans (hbc.mono HBA.out.size))
    clear hbc
    go_wp2_with fail
    go_ret
    exact ⟨ret_bool HM.out, HBF.out⟩
  ·have hk' : (ka == kb) = false := by rw [beq_eq_false_iff_ne]; exact hk
   clear hn hk
   go_enter Tryz.func85, Tryz.ntmps85
   go_upto_region 1 with fail
   rw [← HWA.out]
   refine wp_region_inv2T (fun T0 => MtaI T0 wA ka sa la ua kb sb lb ub w.heap.size (w.heap.size + 1) false) (by kernel_rfl) (by kernel_rfl) ?g0a ?gstepa ?genda
   case g0a =>
    have hno : ∀ j, ¬ dn (Array.replicate 20 false) j := by
     intro j; unfold dn; by_cases hj : j < 20 <;> simp [Array.getD, hj]
    have na : ∀ {j : Nat} {Z : Prop}, dn (Array.replicate 20 false) j → Z := fun hj => absurd hj (hno _)
    exact ⟨_, rfl, { bel := (Below.refl _ _).drew, siz := rfl, kp := fun _ _ => rfl, k2 := rfl, k3 := rfl, p0 := na, p1 := na, p2 := na, p3 := na, p4 := na, p5 := na, p6 := na, p7 := na, p8 := na, p9 := na, p10 := na, p11 := na, p12 := na, p13 := na, p14 := na, p15 := na, p16 := na, p17 := na, p18 := na, p19 := na }⟩
   case gstepa =>
    intro T0 d a wc i hd hI hi
    obtain ⟨hlt, hnd, hpre⟩ := mem_ready hi
    have hd' : d.size = 20 := hd
    have hin : i < 20 := hlt
    clear hi hd hlt
    obtain ⟨t, rfl, h⟩ := hI
    have hcs : i = 0 ∨ i = 1 ∨ i = 2 ∨ i = 3 ∨ i = 4 ∨ i = 5 ∨ i = 6 ∨ i = 7 ∨ i = 8 ∨ i = 9 ∨ i = 10 ∨ i = 11 ∨ i = 12 ∨ i = 13 ∨ i = 14 ∨ i = 15 ∨ i = 16 ∨ i = 17 ∨ i = 18 ∨ i = 19 := by omega
    rcases hcs with rfl | rfl | rfl | rfl | rfl | rfl | rfl | rfl | rfl | rfl | rfl | rfl | rfl | rfl | rfl | rfl | rfl | rfl | rfl | rfl
    ·have hi : 0 < d.size := by omega
     have q2 := h.k2
     obtain ⟨m0, m1, m2, m3, n0, n1, n2, n3⟩ := CA.out wc h.bel
     refine wpOp_plain rfl rfl ?_
     go_simp
     exact ⟨_, rfl, { bel := h.bel, siz := (by simpa using h.siz), kp := rk h.kp, k2 := rs h.k2, k3 := rs h.k3, p0 := fun _ => set_same (by have := h.siz; omega), p1 := rp hi h.p1, p2 := rp hi h.p2, p3 := rp hi h.p3, p4 := rp hi h.p4, p5 := rp hi h.p5, p6 := rp hi h.p6, p7 := rp hi h.p7, p8 := rp hi h.p8, p9 := rp hi h.p9, p10 := rp hi h.p10, p11 := rp hi h.p11, p12 := rp hi h.p12, p13 := rp hi h.p13, p14 := rp hi h.p14, p15 := rp hi h.p15, p16 := rp hi h.p16, p17 := rp hi h.p17, p18 := rp hi h.p18, p19 := rp hi h.p19 }⟩
    ·have hi : 1 < d.size := by omega
     have e0 := h.p0 (hpre _ rfl ⟨0, .data⟩ (by simp) rfl)
     refine wpOp_plain rfl rfl ?_
     go_simp
     refine (gOf_any ⟨ka, sa, la, ua⟩ wc).mono ?_
     rintro e1 w1 ⟨rfl, hb⟩
     exact ⟨_, rfl, { bel := h.bel.trans (hb.mono h.bel.size), siz := (by simpa using h.siz), kp := rk h.kp, k2 := rs h.k2, k3 := rs h.k3, p0 := rp hi h.p0, p1 := fun _ => set_same (by have := h.siz; omega), p2 := rp hi h.p2, p3 := rp hi h.p3, p4 := rp hi h.p4, p5 := rp hi h.p5, p6 := rp hi h.p6, p7 := rp hi h.p7, p8 := rp hi h.p8, p9 := rp hi h.p9, p10 := rp hi h.p10, p11 := rp hi h.p11, p12 := rp hi h.p12, p13 := rp hi h.p13, p14 := rp hi h.p14, p15 := rp hi h.p15, p16 := rp hi h.p16, p17 := rp hi h.p17, p18 := rp hi h.p18, p19 := rp hi h.p19 }⟩
    ·have hi : 2 < d.size := by omega
     have q3 := h.k3
     obtain ⟨m0, m1, m2, m3, n0, n1, n2, n3⟩ := CA.out wc h.bel
     refine wpOp_plain rfl rfl ?_
     go_simp
     exact ⟨_, rfl, { bel := h.bel, siz := (by simpa using h.siz), kp := rk h.kp, k2 := rs h.k2, k3 := rs h.k3, p0 := rp hi h.p0, p1 := rp hi h.p1, p2 := fun _ => set_same (by have := h.siz; omega), p3 := rp hi h.p3, p4 := rp hi h.p4, p5 := rp hi h.p5, p6 := rp hi h.p6, p7 := rp hi h.p7, p8 := rp hi h.p8, p9 := rp hi h.p9, p10 := rp hi h.p10, p11 := rp hi h.p11, p12 := rp hi h.p12, p13 := rp hi h.p13, p14 := rp hi h.p14, p15 := rp hi h.p15, p16 := rp hi h.p16, p17 := rp hi h.p17, p18 := rp hi h.p18, p19 := rp hi h.p19 }⟩
    ·have hi : 3 < d.size := by omega
     have e2 := h.p2 (hpre _ rfl ⟨2, .data⟩ (by simp) rfl)
     refine wpOp_plain rfl rfl ?_
     go_simp
     refine (gOf_any ⟨kb, sb, lb, ub⟩ wc).mono ?_
     rintro e1 w1 ⟨rfl, hb⟩
     exact ⟨_, rfl, { bel := h.bel.trans (hb.mono h.bel.size), siz := (by simpa using h.siz), kp := rk h.kp, k2 := rs h.k2, k3 := rs h.k3, p0 := rp hi h.p0, p1 := rp hi h.p1, p2 := rp hi h.p2, p3 := fun _ => set_same (by have := h.siz; omega), p4 := rp hi h.p4, p5 := rp hi h.p5, p6 := rp hi h.p6, p7 := rp hi h.p7, p8 := rp hi h.p8, p9 := rp hi h.p9, p10 := rp hi h.p10, p11 := rp hi h.p11, p12 := rp hi h.p12, p13 := rp hi h.p13, p14 := rp hi h.p14, p15 := rp hi h.p15, p16 := rp hi h.p16, p17 := rp hi h.p17, p18 := rp hi h.p18, p19 := rp hi h.p19 }⟩
    ·have hi : 4 < d.size := by omega
     have e1 := h.p1 (hpre _ rfl ⟨1, .data⟩ (by simp) rfl)
     have e3 := h.p3 (hpre _ rfl ⟨3, .data⟩ (by simp) rfl)
     refine wpOp_plain rfl rfl ?_
     go_simp
     exact ⟨_, rfl, { bel := h.bel, siz := (by simpa using h.siz), kp := rk h.kp, k2 := rs h.k2, k3 := rs h.k3, p0 := rp hi h.p0, p1 := rp hi h.p1, p2 := rp hi h.p2, p3 := rp hi h.p3, p4 := fun _ => set_same (by have := h.siz; omega), p5 := rp hi h.p5, p6 := rp hi h.p6, p7 := rp hi h.p7, p8 := rp hi h.p8, p9 := rp hi h.p9, p10 := rp hi h.p10, p11 := rp hi h.p11, p12 := rp hi h.p12, p13 := rp hi h.p13, p14 := rp hi h.p14, p15 := rp hi h.p15, p16 := rp hi h.p16, p17 := rp hi h.p17, p18 := rp hi h.p18, p19 := rp hi h.p19 }⟩
    ·have hi : 5 < d.size := by omega
     have e4 := h.p4 (hpre _ rfl ⟨4, .data⟩ (by simp) rfl)
     refine wpOp_plain rfl rfl ?_
     go_simp
     exact ⟨_, rfl, { bel := h.bel, siz := (by simpa using h.siz), kp := rk h.kp, k2 := rs h.k2, k3 := rs h.k3, p0 := rp hi h.p0, p1 := rp hi h.p1, p2 := rp hi h.p2, p3 := rp hi h.p3, p4 := rp hi h.p4, p5 := fun _ => set_same (by have := h.siz; omega), p6 := rp hi h.p6, p7 := rp hi h.p7, p8 := rp hi h.p8, p9 := rp hi h.p9, p10 := rp hi h.p10, p11 := rp hi h.p11, p12 := rp hi h.p12, p13 := rp hi h.p13, p14 := rp hi h.p14, p15 := rp hi h.p15, p16 := rp hi h.p16, p17 := rp hi h.p17, p18 := rp hi h.p18, p19 := rp hi h.p19 }⟩
    ·have hi : 6 < d.size := by omega
     refine wpOp_idle rfl (unwanted_of (d := 10) rfl rfl (h.p5 (hpre _ rfl ⟨5, .guard⟩ (by simp) rfl)) (by decide)) ?_
     exact ⟨_, rfl, { bel := h.bel, siz := (by simpa using h.siz), kp := rk h.kp, k2 := rs h.k2, k3 := rs h.k3, p0 := rp hi h.p0, p1 := rp hi h.p1, p2 := rp hi h.p2, p3 := rp hi h.p3, p4 := rp hi h.p4, p5 := rp hi h.p5, p6 := fun _ => set_same (by have := h.siz; show _ < t.size; omega), p7 := rp hi h.p7, p8 := rp hi h.p8, p9 := rp hi h.p9, p10 := rp hi h.p10, p11 := rp hi h.p11, p12 := rp hi h.p12, p13 := rp hi h.p13, p14 := rp hi h.p14, p15 := rp hi h.p15, p16 := rp hi h.p16, p17 := rp hi h.p17, p18 := rp hi h.p18, p19 := rp hi h.p19 }⟩
    ·have hi : 7 < d.size := by omega
     refine wpOp_idle rfl (unwanted_of (d := 10) rfl rfl (h.p5 (hpre _ rfl ⟨5, .guard⟩ (by simp) rfl)) (by decide)) ?_
     exact ⟨_, rfl, { bel := h.bel, siz := (by simpa using h.siz), kp := rk h.kp, k2 := rs h.k2, k3 := rs h.k3, p0 := rp hi h.p0, p1 := rp hi h.p1, p2 := rp hi h.p2, p3 := rp hi h.p3, p4 := rp hi h.p4, p5 := rp hi h.p5, p6 := rp hi h.p6, p7 := fun _ => set_same (by have := h.siz; show _ < t.size; omega), p8 := rp hi h.p8, p9 := rp hi h.p9, p10 := rp hi h.p10, p11 := rp hi h.p11, p12 := rp hi h.p12, p13 := rp hi h.p13, p14 := rp hi h.p14, p15 := rp hi h.p15, p16 := rp hi h.p16, p17 := rp hi h.p17, p18 := rp hi h.p18, p19 := rp hi h.p19 }⟩
    ·have hi : 8 < d.size := by omega
     refine wpOp_idle rfl (unwanted_of (d := 10) rfl rfl (h.p5 (hpre _ rfl ⟨5, .guard⟩ (by simp) rfl)) (by decide)) ?_
     exact ⟨_, rfl, { bel := h.bel, siz := (by simpa using h.siz), kp := rk h.kp, k2 := rs h.k2, k3 := rs h.k3, p0 := rp hi h.p0, p1 := rp hi h.p1, p2 := rp hi h.p2, p3 := rp hi h.p3, p4 := rp hi h.p4, p5 := rp hi h.p5, p6 := rp hi h.p6, p7 := rp hi h.p7, p8 := fun _ => set_same (by have := h.siz; show _ < t.size; omega), p9 := rp hi h.p9, p10 := rp hi h.p10, p11 := rp hi h.p11, p12 := rp hi h.p12, p13 := rp hi h.p13, p14 := rp hi h.p14, p15 := rp hi h.p15, p16 := rp hi h.p16, p17 := rp hi h.p17, p18 := rp hi h.p18, p19 := rp hi h.p19 }⟩
    ·have hi : 9 < d.size := by omega
     refine wpOp_idle rfl (unwanted_of (d := 10) rfl rfl (h.p5 (hpre _ rfl ⟨5, .guard⟩ (by simp) rfl)) (by decide)) ?_
     exact ⟨_, rfl, { bel := h.bel, siz := (by simpa using h.siz), kp := rk h.kp, k2 := rs h.k2, k3 := rs h.k3, p0 := rp hi h.p0, p1 := rp hi h.p1, p2 := rp hi h.p2, p3 := rp hi h.p3, p4 := rp hi h.p4, p5 := rp hi h.p5, p6 := rp hi h.p6, p7 := rp hi h.p7, p8 := rp hi h.p8, p9 := fun _ => set_same (by have := h.siz; show _ < t.size; omega), p10 := rp hi h.p10, p11 := rp hi h.p11, p12 := rp hi h.p12, p13 := rp hi h.p13, p14 := rp hi h.p14, p15 := rp hi h.p15, p16 := rp hi h.p16, p17 := rp hi h.p17, p18 := rp hi h.p18, p19 := rp hi h.p19 }⟩
    ·have hi : 10 < d.size := by omega
     refine wpOp_idle rfl (unwanted_of (d := 10) rfl rfl (h.p5 (hpre _ rfl ⟨5, .guard⟩ (by simp) rfl)) (by decide)) ?_
     exact ⟨_, rfl, { bel := h.bel, siz := (by simpa using h.siz), kp := rk h.kp, k2 := rs h.k2, k3 := rs h.k3, p0 := rp hi h.p0, p1 := rp hi h.p1, p2 := rp hi h.p2, p3 := rp hi h.p3, p4 := rp hi h.p4, p5 := rp hi h.p5, p6 := rp hi h.p6, p7 := rp hi h.p7, p8 := rp hi h.p8, p9 := rp hi h.p9, p10 := fun _ => set_same (by have := h.siz; show _ < t.size; omega), p11 := rp hi h.p11, p12 := rp hi h.p12, p13 := rp hi h.p13, p14 := rp hi h.p14, p15 := rp hi h.p15, p16 := rp hi h.p16, p17 := rp hi h.p17, p18 := rp hi h.p18, p19 := rp hi h.p19 }⟩
    ·have hi : 11 < d.size := by omega
     have e5 := h.p5 (hpre _ rfl ⟨5, .data⟩ (by simp) rfl)
     have e10 := h.p10 (hpre _ rfl ⟨10, .data⟩ (by simp) rfl)
     refine wpOp_plain rfl rfl ?_
     go_simp
     exact ⟨_, rfl, { bel := h.bel, siz := (by simpa using h.siz), kp := rk h.kp, k2 := rs h.k2, k3 := rs h.k3, p0 := rp hi h.p0, p1 := rp hi h.p1, p2 := rp hi h.p2, p3 := rp hi h.p3, p4 := rp hi h.p4, p5 := rp hi h.p5, p6 := rp hi h.p6, p7 := rp hi h.p7, p8 := rp hi h.p8, p9 := rp hi h.p9, p10 := rp hi h.p10, p11 := fun _ => set_same (by have := h.siz; omega), p12 := rp hi h.p12, p13 := rp hi h.p13, p14 := rp hi h.p14, p15 := rp hi h.p15, p16 := rp hi h.p16, p17 := rp hi h.p17, p18 := rp hi h.p18, p19 := rp hi h.p19 }⟩
    ·have hi : 12 < d.size := by omega
     have e11 := h.p11 (hpre _ rfl ⟨11, .data⟩ (by simp) rfl)
     refine wpOp_plain rfl rfl ?_
     go_simp
     exact ⟨_, rfl, { bel := h.bel, siz := (by simpa using h.siz), kp := rk h.kp, k2 := rs h.k2, k3 := rs h.k3, p0 := rp hi h.p0, p1 := rp hi h.p1, p2 := rp hi h.p2, p3 := rp hi h.p3, p4 := rp hi h.p4, p5 := rp hi h.p5, p6 := rp hi h.p6, p7 := rp hi h.p7, p8 := rp hi h.p8, p9 := rp hi h.p9, p10 := rp hi h.p10, p11 := rp hi h.p11, p12 := fun _ => set_same (by have := h.siz; omega), p13 := rp hi h.p13, p14 := rp hi h.p14, p15 := rp hi h.p15, p16 := rp hi h.p16, p17 := rp hi h.p17, p18 := rp hi h.p18, p19 := rp hi h.p19 }⟩
    ·have hi : 13 < d.size := by omega
     refine wpOp_idle rfl (unwanted_of (d := 17) rfl rfl (h.p12 (hpre _ rfl ⟨12, .guard⟩ (by simp) rfl)) (by decide)) ?_
     exact ⟨_, rfl, { bel := h.bel, siz := (by simpa using h.siz), kp := rk h.kp, k2 := rs h.k2, k3 := rs h.k3, p0 := rp hi h.p0, p1 := rp hi h.p1, p2 := rp hi h.p2, p3 := rp hi h.p3, p4 := rp hi h.p4, p5 := rp hi h.p5, p6 := rp hi h.p6, p7 := rp hi h.p7, p8 := rp hi h.p8, p9 := rp hi h.p9, p10 := rp hi h.p10, p11 := rp hi h.p11, p12 := rp hi h.p12, p13 := fun _ => set_same (by have := h.siz; show _ < t.size; omega), p14 := rp hi h.p14, p15 := rp hi h.p15, p16 := rp hi h.p16, p17 := rp hi h.p17, p18 := rp hi h.p18, p19 := rp hi h.p19 }⟩
    ·have hi : 14 < d.size := by omega
     refine wpOp_idle rfl (unwanted_of (d := 17) rfl rfl (h.p12 (hpre _ rfl ⟨12, .guard⟩ (by simp) rfl)) (by decide)) ?_
     exact ⟨_, rfl, { bel := h.bel, siz := (by simpa using h.siz), kp := rk h.kp, k2 := rs h.k2, k3 := rs h.k3, p0 := rp hi h.p0, p1 := rp hi h.p1, p2 := rp hi h.p2, p3 := rp hi h.p3, p4 := rp hi h.p4, p5 := rp hi h.p5, p6 := rp hi h.p6, p7 := rp hi h.p7, p8 := rp hi h.p8, p9 := rp hi h.p9, p10 := rp hi h.p10, p11 := rp hi h.p11, p12 := rp hi h.p12, p13 := rp hi h.p13, p14 := fun _ => set_same (by have := h.siz; show _ < t.size; omega), p15 := rp hi h.p15, p16 := rp hi h.p16, p17 := rp hi h.p17, p18 := rp hi h.p18, p19 := rp hi h.p19 }⟩
    ·have hi : 15 < d.size := by omega
     refine wpOp_idle rfl (unwanted_of (d := 17) rfl rfl (h.p12 (hpre _ rfl ⟨12, .guard⟩ (by simp) rfl)) (by decide)) ?_
     exact ⟨_, rfl, { bel := h.bel, siz := (by simpa using h.siz), kp := rk h.kp, k2 := rs h.k2, k3 := rs h.k3, p0 := rp hi h.p0, p1 := rp hi h.p1, p2 := rp hi h.p2, p3 := rp hi h.p3, p4 := rp hi h.p4, p5 := rp hi h.p5, p6 := rp hi h.p6, p7 := rp hi h.p7, p8 := rp hi h.p8, p9 := rp hi h.p9, p10 := rp hi h.p10, p11 := rp hi h.p11, p12 := rp hi h.p12, p13 := rp hi h.p13, p14 := rp hi h.p14, p15 := fun _ => set_same (by have := h.siz; show _ < t.size; omega), p16 := rp hi h.p16, p17 := rp hi h.p17, p18 := rp hi h.p18, p19 := rp hi h.p19 }⟩
    ·have hi : 16 < d.size := by omega
     refine wpOp_idle rfl (unwanted_of (d := 17) rfl rfl (h.p12 (hpre _ rfl ⟨12, .guard⟩ (by simp) rfl)) (by decide)) ?_
     exact ⟨_, rfl, { bel := h.bel, siz := (by simpa using h.siz), kp := rk h.kp, k2 := rs h.k2, k3 := rs h.k3, p0 := rp hi h.p0, p1 := rp hi h.p1, p2 := rp hi h.p2, p3 := rp hi h.p3, p4 := rp hi h.p4, p5 := rp hi h.p5, p6 := rp hi h.p6, p7 := rp hi h.p7, p8 := rp hi h.p8, p9 := rp hi h.p9, p10 := rp hi h.p10, p11 := rp hi h.p11, p12 := rp hi h.p12, p13 := rp hi h.p13, p14 := rp hi h.p14, p15 := rp hi h.p15, p16 := fun _ => set_same (by have := h.siz; show _ < t.size; omega), p17 := rp hi h.p17, p18 := rp hi h.p18, p19 := rp hi h.p19 }⟩
    ·have hi : 17 < d.size := by omega
     refine wpOp_idle rfl (unwanted_of (d := 17) rfl rfl (h.p12 (hpre _ rfl ⟨12, .guard⟩ (by simp) rfl)) (by decide)) ?_
     exact ⟨_, rfl, { bel := h.bel, siz := (by simpa using h.siz), kp := rk h.kp, k2 := rs h.k2, k3 := rs h.k3, p0 := rp hi h.p0, p1 := rp hi h.p1, p2 := rp hi h.p2, p3 := rp hi h.p3, p4 := rp hi h.p4, p5 := rp hi h.p5, p6 := rp hi h.p6, p7 := rp hi h.p7, p8 := rp hi h.p8, p9 := rp hi h.p9, p10 := rp hi h.p10, p11 := rp hi h.p11, p12 := rp hi h.p12, p13 := rp hi h.p13, p14 := rp hi h.p14, p15 := rp hi h.p15, p16 := rp hi h.p16, p17 := fun _ => set_same (by have := h.siz; show _ < t.size; omega), p18 := rp hi h.p18, p19 := rp hi h.p19 }⟩
    ·have hi : 18 < d.size := by omega
     have e12 := h.p12 (hpre _ rfl ⟨12, .data⟩ (by simp) rfl)
     have e17 := h.p17 (hpre _ rfl ⟨17, .data⟩ (by simp) rfl)
     refine wpOp_plain rfl rfl ?_
     go_simp
     exact ⟨_, rfl, { bel := h.bel, siz := (by simpa using h.siz), kp := rk h.kp, k2 := rs h.k2, k3 := rs h.k3, p0 := rp hi h.p0, p1 := rp hi h.p1, p2 := rp hi h.p2, p3 := rp hi h.p3, p4 := rp hi h.p4, p5 := rp hi h.p5, p6 := rp hi h.p6, p7 := rp hi h.p7, p8 := rp hi h.p8, p9 := rp hi h.p9, p10 := rp hi h.p10, p11 := rp hi h.p11, p12 := rp hi h.p12, p13 := rp hi h.p13, p14 := rp hi h.p14, p15 := rp hi h.p15, p16 := rp hi h.p16, p17 := rp hi h.p17, p18 := fun _ => set_same (by have := h.siz; omega), p19 := rp hi h.p19 }⟩
    ·have hi : 19 < d.size := by omega
     have e18 := h.p18 (hpre _ rfl ⟨18, .data⟩ (by simp) rfl)
     refine wpOp_plain rfl rfl ?_
     go_simp
     exact ⟨_, rfl, { bel := h.bel, siz := (by simpa using h.siz), kp := rk h.kp, k2 := rs h.k2, k3 := rs h.k3, p0 := rp hi h.p0, p1 := rp hi h.p1, p2 := rp hi h.p2, p3 := rp hi h.p3, p4 := rp hi h.p4, p5 := rp hi h.p5, p6 := rp hi h.p6, p7 := rp hi h.p7, p8 := rp hi h.p8, p9 := rp hi h.p9, p10 := rp hi h.p10, p11 := rp hi h.p11, p12 := rp hi h.p12, p13 := rp hi h.p13, p14 := rp hi h.p14, p15 := rp hi h.p15, p16 := rp hi h.p16, p17 := rp hi h.p17, p18 := rp hi h.p18, p19 := fun _ => set_same (by have := h.siz; omega) }⟩
   case genda =>
    intro d a wc hd hI hall
    obtain ⟨t, rfl, h⟩ := hI
    have hdn : ∀ j, j < 20 → dn d j := fun j hj => dn_all hd hall hj
    have hd : ∀ j, (_ : j < 20 := by decide) → dn d j := fun j hj => hdn j hj
    have hfe := frame_eq [(4, _), (5, _), (6, _), (7, _), (8, _), (9, _), (10, _), (11, _), (12, _), (13, _), (14, _), (15, _), (16, _), (17, _), (18, _), (19, _), (20, _), (21, _), (22, _), (23, _)] (h.siz.trans rfl) h.kp rfl ⟨h.p19 (hd 19), h.p0 (hd 0), h.p1 (hd 1), h.p2 (hd 2), h.p3 (hd 3), h.p4 (hd 4), h.p5 (hd 5), h.p6 (hd 6), h.p7 (hd 7), h.p8 (hd 8), h.p9 (hd 9), h.p10 (hd 10), h.p11 (hd 11), h.p12 (hd 12), h.p13 (hd 13), h.p14 (hd 14), h.p15 (hd 15), h.p16 (hd 16), h.p17 (hd 17), h.p18 (hd 18), trivial⟩
    simp only [List.foldl_cons, List.foldl_nil, List.setIfInBounds_toArray, List.set_cons_succ, List.set_cons_zero] at hfe
    have hbc := h.bel
    subst hfe
    clear h hdn hd hall
    have HBF := Lib.hid (HBA.out.trans (hbc.mono HBA.out.size))
    clear hbc
    go_wp2_with fail
    go_ret
    exact ⟨ret_bool HM.out, HBF.out⟩
end Go.Proofs.YtenmkbpdkfhbjaaGreat
