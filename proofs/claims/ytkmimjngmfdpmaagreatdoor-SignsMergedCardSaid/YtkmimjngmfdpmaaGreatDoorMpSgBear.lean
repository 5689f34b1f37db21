/- signs.inUse, checkPeriod, bearers. Made by gen_gbear.py. -/
import Derived.Test.YtkmimjngmfdpmaaGreatDoorMpSgCheck
import Derived.Test.YtkmimjngmfdpmaaGreatDoorMpBegin
import Derived.Test.YtkmimjngmfdpmaaGreatDoorMpTrimPlain
namespace Go.Proofs.YtkmimjngmfdpmaaGreatDoor
open Go Go.RowKit

set_option maxRecDepth 100000 in
set_option maxHeartbeats 2000000 in
theorem gInUse_any (v : Sg.Value) (p : Int) (w : World) : Calls Tryz.prog 75 #[.agg #[.int .i64 v.kind, .string v.text, .int .i64 v.lo, .int .i64 v.hi], .int .i64 p] w (RetBB (Sg.inUseB v p) w) := by
  have HB : Hid (Below w.heap.size w (w.alloc (.cells #[.int .i64 v.kind, .string v.text, .int .i64 v.lo, .int .i64 v.hi] 60))) := Lib.hid ((Below.refl _ _).alloc (Nat.le_refl _) _)
  by_cases h1 : v.lo ≤ p
  · by_cases h2 : p ≤ v.hi
    · have HF : Hid (Sg.inUseB v p = true) := Lib.hid (by simp [Sg.inUseB, h1, h2])
      go_enter Tryz.func75, Tryz.ntmps75
      go_wp2_with fail
      go_ret
      exact ⟨ret_bool (by rw [HF.out]), HB.out⟩
    · have HF : Hid (Sg.inUseB v p = false) := Lib.hid (by simp [Sg.inUseB, h2])
      go_enter Tryz.func75, Tryz.ntmps75
      go_wp2_with fail
      go_ret
      exact ⟨ret_bool (by rw [HF.out]; try simp), HB.out⟩
  · have HF : Hid (Sg.inUseB v p = false) := Lib.hid (by simp [Sg.inUseB, h1])
    go_enter Tryz.func75, Tryz.ntmps75
    go_wp2_with fail
    go_ret
    exact ⟨ret_bool (by rw [HF.out]), HB.out⟩
def Sg.perE (l : Sg.SList) (p : Int) : Int := if Sg.perBad l p then 13 else 0
set_option maxRecDepth 100000 in
set_option maxHeartbeats 2000000 in
theorem gCheckPeriod_any (l : Sg.SList) (A : Option Addr) (n c : Nat) (p : Int) (w : World) : Calls Tryz.prog 51 #[.agg #[.int .i64 l.periods, .slice A n c], .int .i64 p] w (RetIB (Sg.perE l p) w) := by
  have HB : Hid (Below w.heap.size w (w.alloc (.cells #[.int .i64 l.periods, .slice A n c] 24))) := Lib.hid ((Below.refl _ _).alloc (Nat.le_refl _) _)
  by_cases h : Sg.perBad l p
  · have HF : Hid (Sg.perE l p = 13) := Lib.hid (by unfold Sg.perE; rw [if_pos h])
    have hor : p < 1 ∨ (¬ p < 1 ∧ l.periods < p) := by unfold Sg.perBad at h; omega
    clear h
    rcases hor with h1 | ⟨h1, h2⟩
    all_goals
      go_enter Tryz.func51, Tryz.ntmps51
      go_wp2_with fail
      go_ret
      exact ⟨ret_int HF.out.symm, HB.out⟩
  · have HF : Hid (Sg.perE l p = 0) := Lib.hid (by unfold Sg.perE; rw [if_neg h])
    obtain ⟨h1, h2⟩ : ¬ p < 1 ∧ ¬ l.periods < p := by unfold Sg.perBad at h; omega
    clear h
    go_enter Tryz.func51, Tryz.ntmps51
    go_wp2_with fail
    go_ret
    exact ⟨ret_int HF.out.symm, HB.out⟩
def Sg.bearsB (kind : Int) (text : ByteArray) (p : Int) (v : Sg.Value) : Bool := decide (v.kind = kind) && decide (v.text = text) && Sg.inUseB v p
structure GbaR (T0 : Array Value) (W0 : World) (kb : Int) (sb : ByteArray) (la ua : Int) (k0 : Int) (s0 : ByteArray) (per : Int) (xb nb pb : Nat) (q : Bool) (d : Array Bool) (t : Array Value) (wc : World) : Prop where
  bel : Below W0.heap.size W0 wc
  siz : t.size = 14
  kp : ∀ i, i ∉ ([4, 5, 6, 7, 8, 9, 10, 11, 12, 13] : List Nat) → t[i]? = T0[i]?
  k1 : t[1]? = some (.pointer (some ⟨nb, 0, none⟩))
  k2 : t[2]? = some (.pointer (some ⟨pb, 0, none⟩))
  k3 : t[3]? = some (.pointer (some ⟨xb, 0, none⟩))
  p0 : dn d 0 → t[5]? = some (.agg #[.int .i64 kb, .string sb, .int .i64 la, .int .i64 ua])
  p1 : dn d 1 → t[6]? = some (.agg #[.int .i64 kb, .string sb])
  p2 : dn d 2 → t[7]? = some (.agg #[.int .i64 k0, .string s0])
  p3 : dn d 3 → t[8]? = some (.bool false)
  p4 : dn d 4 → t[9]? = some (.bool false)
  p5 : dn d 5 → t[10]? = some (undef)
  p6 : dn d 6 → t[11]? = some (undef)
  p7 : dn d 7 → t[12]? = some (undef)
  p8 : dn d 8 → t[13]? = some (.bool false)
  p9 : dn d 9 → t[4]? = some (.bool false)
def GbaI (T0 : Array Value) (W0 : World) (kb : Int) (sb : ByteArray) (la ua : Int) (k0 : Int) (s0 : ByteArray) (per : Int) (xb nb pb : Nat) (q : Bool) (d : Array Bool) (a : Act) (wc : World) : Prop := ∃ t : Array Value, a = ⟨t, []⟩ ∧ GbaR T0 W0 kb sb la ua k0 s0 per xb nb pb q d t wc
structure GbbR (T0 : Array Value) (W0 : World) (kb : Int) (sb : ByteArray) (la ua : Int) (k0 : Int) (s0 : ByteArray) (per : Int) (xb nb pb : Nat) (q : Bool) (d : Array Bool) (t : Array Value) (wc : World) : Prop where
  bel : Below W0.heap.size W0 wc
  siz : t.size = 14
  kp : ∀ i, i ∉ ([4, 5, 6, 7, 8, 9, 10, 11, 12, 13] : List Nat) → t[i]? = T0[i]?
  k1 : t[1]? = some (.pointer (some ⟨nb, 0, none⟩))
  k2 : t[2]? = some (.pointer (some ⟨pb, 0, none⟩))
  k3 : t[3]? = some (.pointer (some ⟨xb, 0, none⟩))
  p0 : dn d 0 → t[5]? = some (.agg #[.int .i64 kb, .string sb, .int .i64 la, .int .i64 ua])
  p1 : dn d 1 → t[6]? = some (.agg #[.int .i64 kb, .string sb])
  p2 : dn d 2 → t[7]? = some (.agg #[.int .i64 kb, .string sb])
  p3 : dn d 3 → t[8]? = some (.bool true)
  p4 : dn d 4 → t[9]? = some (.bool true)
  p5 : dn d 5 → t[10]? = some (.agg #[.int .i64 kb, .string sb, .int .i64 la, .int .i64 ua])
  p6 : dn d 6 → t[11]? = some (.int .i64 per)
  p7 : dn d 7 → t[12]? = some (.bool q)
  p8 : dn d 8 → t[13]? = some (.bool q)
  p9 : dn d 9 → t[4]? = some (.bool q)
def GbbI (T0 : Array Value) (W0 : World) (kb : Int) (sb : ByteArray) (la ua : Int) (k0 : Int) (s0 : ByteArray) (per : Int) (xb nb pb : Nat) (q : Bool) (d : Array Bool) (a : Act) (wc : World) : Prop := ∃ t : Array Value, a = ⟨t, []⟩ ∧ GbbR T0 W0 kb sb la ua k0 s0 per xb nb pb q d t wc
set_option maxRecDepth 100000 in
set_option maxHeartbeats 4000000 in
theorem gBearers1_any (y : Sg.Value) (k0 : Int) (s0 : ByteArray) (per : Int) (nb pb : Nat) (w : World) (hnb : nb < w.heap.size) (hpb : pb < w.heap.size) (h0 : w.cell? ⟨nb, 0, none⟩ = some (.int .i64 k0)) (h1 : w.cell? ⟨nb, 1, none⟩ = some (.string s0)) (h2 : w.cell? ⟨pb, 0, none⟩ = some (.int .i64 per)) :
    Calls Tryz.prog 88 #[.agg #[.int .i64 y.kind, .string y.text, .int .i64 y.lo, .int .i64 y.hi], .pointer (some ⟨nb, 0, none⟩), .pointer (some ⟨pb, 0, none⟩)] w (RetBB (Sg.bearsB k0 s0 per y) w) := by
  obtain ⟨kb, sb, la, ua⟩ := y
  obtain ⟨wA, hwA⟩ : ∃ wA, wA = w.alloc (.cells #[.int .i64 kb, .string sb, .int .i64 la, .int .i64 ua] 60) := ⟨_, rfl⟩
  have hba : Below w.heap.size w wA := by rw [hwA]; exact (Below.refl _ _).alloc (Nat.le_refl _) _
  have hsa : w.heap.size < wA.heap.size := by rw [hwA]; simp
  have hX : wA.heap[w.heap.size]? = some (.cells #[.int .i64 kb, .string sb, .int .i64 la, .int .i64 ua] 60 (0, 0)) := by rw [hwA]; exact heap_alloc_new _ _
  have CA : Hid (∀ W, Below wA.heap.size wA W → W.cell? ⟨w.heap.size, 0, none⟩ = some (.int .i64 kb) ∧ W.cell? ⟨w.heap.size, 1, none⟩ = some (.string sb) ∧ W.cell? ⟨w.heap.size, 2, none⟩ = some (.int .i64 la) ∧ W.cell? ⟨w.heap.size, 3, none⟩ = some (.int .i64 ua) ∧
      W.cell? ⟨nb, 0, none⟩ = some (.int .i64 k0) ∧ W.cell? ⟨nb, 1, none⟩ = some (.string s0) ∧ W.cell? ⟨pb, 0, none⟩ = some (.int .i64 per)) := Lib.hid fun W hW => by
    have p := (hW.block w.heap.size (by omega)).trans hX
    have hw : Below w.heap.size w W := hba.trans (hW.mono (by omega))
    exact ⟨by simp [World.cell?, p], by simp [World.cell?, p], by simp [World.cell?, p], by simp [World.cell?, p], (hw.cell (p := ⟨nb, 0, none⟩) hnb).trans h0, (hw.cell (p := ⟨nb, 1, none⟩) hnb).trans h1, (hw.cell (p := ⟨pb, 0, none⟩) hpb).trans h2⟩
  have HBA := Lib.hid hba
  have HWA := Lib.hid hwA
  clear hba hX hwA h0 h1 h2
  by_cases hn : kb = k0 ∧ sb = s0
  · obtain ⟨rfl, rfl⟩ := hn
    have HM : Hid (Sg.inUseB ⟨kb, sb, la, ua⟩ per = Sg.bearsB kb sb per ⟨kb, sb, la, ua⟩) := Lib.hid (by simp [Sg.bearsB])
    go_enter Tryz.func88, Tryz.ntmps88
    go_upto_region 1 with fail
    rw [← HWA.out]
    refine wp_region_inv2T (fun T0 => GbbI T0 wA kb sb la ua kb sb per w.heap.size nb pb (Sg.inUseB ⟨kb, sb, la, ua⟩ per)) (by kernel_rfl) (by kernel_rfl) ?g0b ?gstepb ?gendb
    case g0b =>
      have hno : ∀ j, ¬ dn (Array.replicate 10 false) j := by
        intro j; unfold dn; by_cases hj : j < 10 <;> simp [Array.getD, hj]
      have na : ∀ {j : Nat} {Z : Prop}, dn (Array.replicate 10 false) j → Z := fun hj => absurd hj (hno _)
      exact ⟨_, rfl, { bel := (Below.refl _ _).drew, siz := rfl, kp := fun _ _ => rfl, k1 := rfl, k2 := rfl, k3 := rfl, p0 := na, p1 := na, p2 := na, p3 := na, p4 := na, p5 := na, p6 := na, p7 := na, p8 := na, p9 := na }⟩
    case gstepb =>
      intro T0 d a wc i hd hI hi
      obtain ⟨hlt, hnd, hpre⟩ := mem_ready hi
      have hd' : d.size = 10 := hd
      have hin : i < 10 := hlt
      clear hi hd hlt
      obtain ⟨t, rfl, h⟩ := hI
      have hcs : i = 0 ∨ i = 1 ∨ i = 2 ∨ i = 3 ∨ i = 4 ∨ i = 5 ∨ i = 6 ∨ i = 7 ∨ i = 8 ∨ i = 9 := by omega
      rcases hcs with rfl | rfl | rfl | rfl | rfl | rfl | rfl | rfl | rfl | rfl
      · have hi : 0 < d.size := by omega
        have q3 := h.k3
        obtain ⟨m0, m1, m2, m3, n0, n1, r0⟩ := CA.out wc h.bel
        refine wpOp_plain rfl rfl ?_
        go_simp
        exact ⟨_, rfl, { bel := h.bel, siz := (by simpa using h.siz), kp := rk h.kp, k1 := rs h.k1, k2 := rs h.k2, k3 := rs h.k3, p0 := fun _ => set_same (by have := h.siz; omega), p1 := rp hi h.p1, p2 := rp hi h.p2, p3 := rp hi h.p3, p4 := rp hi h.p4, p5 := rp hi h.p5, p6 := rp hi h.p6, p7 := rp hi h.p7, p8 := rp hi h.p8, p9 := rp hi h.p9 }⟩
      · have hi : 1 < d.size := by omega
        have e0 := h.p0 (hpre _ rfl ⟨0, .data⟩ (by simp) rfl)
        refine wpOp_plain rfl rfl ?_
        go_simp
        refine (gOf_any ⟨kb, sb, la, ua⟩ wc).mono ?_
        rintro e1 w1 ⟨rfl, hb⟩
        exact ⟨_, rfl, { bel := h.bel.trans (hb.mono h.bel.size), siz := (by simpa using h.siz), kp := rk h.kp, k1 := rs h.k1, k2 := rs h.k2, k3 := rs h.k3, p0 := rp hi h.p0, p1 := fun _ => set_same (by have := h.siz; omega), p2 := rp hi h.p2, p3 := rp hi h.p3, p4 := rp hi h.p4, p5 := rp hi h.p5, p6 := rp hi h.p6, p7 := rp hi h.p7, p8 := rp hi h.p8, p9 := rp hi h.p9 }⟩
      · have hi : 2 < d.size := by omega
        have q1 := h.k1
        obtain ⟨m0, m1, m2, m3, n0, n1, r0⟩ := CA.out wc h.bel
        refine wpOp_plain rfl rfl ?_
        go_simp
        exact ⟨_, rfl, { bel := h.bel, siz := (by simpa using h.siz), kp := rk h.kp, k1 := rs h.k1, k2 := rs h.k2, k3 := rs h.k3, p0 := rp hi h.p0, p1 := rp hi h.p1, p2 := fun _ => set_same (by have := h.siz; omega), p3 := rp hi h.p3, p4 := rp hi h.p4, p5 := rp hi h.p5, p6 := rp hi h.p6, p7 := rp hi h.p7, p8 := rp hi h.p8, p9 := rp hi h.p9 }⟩
      · have hi : 3 < d.size := by omega
        have e1 := h.p1 (hpre _ rfl ⟨1, .data⟩ (by simp) rfl)
        have e2 := h.p2 (hpre _ rfl ⟨2, .data⟩ (by simp) rfl)
        refine wpOp_plain rfl rfl ?_
        go_simp
        exact ⟨_, rfl, { bel := h.bel, siz := (by simpa using h.siz), kp := rk h.kp, k1 := rs h.k1, k2 := rs h.k2, k3 := rs h.k3, p0 := rp hi h.p0, p1 := rp hi h.p1, p2 := rp hi h.p2, p3 := fun _ => set_same (by have := h.siz; omega), p4 := rp hi h.p4, p5 := rp hi h.p5, p6 := rp hi h.p6, p7 := rp hi h.p7, p8 := rp hi h.p8, p9 := rp hi h.p9 }⟩
      · have hi : 4 < d.size := by omega
        have e3 := h.p3 (hpre _ rfl ⟨3, .data⟩ (by simp) rfl)
        refine wpOp_plain rfl rfl ?_
        go_simp
        exact ⟨_, rfl, { bel := h.bel, siz := (by simpa using h.siz), kp := rk h.kp, k1 := rs h.k1, k2 := rs h.k2, k3 := rs h.k3, p0 := rp hi h.p0, p1 := rp hi h.p1, p2 := rp hi h.p2, p3 := rp hi h.p3, p4 := fun _ => set_same (by have := h.siz; omega), p5 := rp hi h.p5, p6 := rp hi h.p6, p7 := rp hi h.p7, p8 := rp hi h.p8, p9 := rp hi h.p9 }⟩
      · have hi : 5 < d.size := by omega
        have q3 := h.k3
        obtain ⟨m0, m1, m2, m3, n0, n1, r0⟩ := CA.out wc h.bel
        refine wpOp_guard rfl (wanted_of (d := 9) rfl rfl (h.p4 (hpre _ rfl ⟨4, .guard⟩ (by simp) rfl))) ?_
        go_simp
        exact ⟨_, rfl, { bel := h.bel, siz := (by simpa using h.siz), kp := rk h.kp, k1 := rs h.k1, k2 := rs h.k2, k3 := rs h.k3, p0 := rp hi h.p0, p1 := rp hi h.p1, p2 := rp hi h.p2, p3 := rp hi h.p3, p4 := rp hi h.p4, p5 := fun _ => set_same (by have := h.siz; omega), p6 := rp hi h.p6, p7 := rp hi h.p7, p8 := rp hi h.p8, p9 := rp hi h.p9 }⟩
      · have hi : 6 < d.size := by omega
        have q2 := h.k2
        obtain ⟨m0, m1, m2, m3, n0, n1, r0⟩ := CA.out wc h.bel
        refine wpOp_guard rfl (wanted_of (d := 9) rfl rfl (h.p4 (hpre _ rfl ⟨4, .guard⟩ (by simp) rfl))) ?_
        go_simp
        exact ⟨_, rfl, { bel := h.bel, siz := (by simpa using h.siz), kp := rk h.kp, k1 := rs h.k1, k2 := rs h.k2, k3 := rs h.k3, p0 := rp hi h.p0, p1 := rp hi h.p1, p2 := rp hi h.p2, p3 := rp hi h.p3, p4 := rp hi h.p4, p5 := rp hi h.p5, p6 := fun _ => set_same (by have := h.siz; omega), p7 := rp hi h.p7, p8 := rp hi h.p8, p9 := rp hi h.p9 }⟩
      · have hi : 7 < d.size := by omega
        have e5 := h.p5 (hpre _ rfl ⟨5, .data⟩ (by simp) rfl)
        have e6 := h.p6 (hpre _ rfl ⟨6, .data⟩ (by simp) rfl)
        refine wpOp_guard rfl (wanted_of (d := 9) rfl rfl (h.p4 (hpre _ rfl ⟨4, .guard⟩ (by simp) rfl))) ?_
        go_simp
        refine (gInUse_any ⟨kb, sb, la, ua⟩ per wc).mono ?_
        rintro e1 w1 ⟨rfl, hb⟩
        exact ⟨_, rfl, { bel := h.bel.trans (hb.mono h.bel.size), siz := (by simpa using h.siz), kp := rk h.kp, k1 := rs h.k1, k2 := rs h.k2, k3 := rs h.k3, p0 := rp hi h.p0, p1 := rp hi h.p1, p2 := rp hi h.p2, p3 := rp hi h.p3, p4 := rp hi h.p4, p5 := rp hi h.p5, p6 := rp hi h.p6, p7 := fun _ => set_same (by have := h.siz; omega), p8 := rp hi h.p8, p9 := rp hi h.p9 }⟩
      · have hi : 8 < d.size := by omega
        have e4 := h.p4 (hpre _ rfl ⟨4, .data⟩ (by simp) rfl)
        have e7 := h.p7 (hpre _ rfl ⟨7, .data⟩ (by simp) rfl)
        refine wpOp_plain rfl rfl ?_
        go_simp
        exact ⟨_, rfl, { bel := h.bel, siz := (by simpa using h.siz), kp := rk h.kp, k1 := rs h.k1, k2 := rs h.k2, k3 := rs h.k3, p0 := rp hi h.p0, p1 := rp hi h.p1, p2 := rp hi h.p2, p3 := rp hi h.p3, p4 := rp hi h.p4, p5 := rp hi h.p5, p6 := rp hi h.p6, p7 := rp hi h.p7, p8 := fun _ => set_same (by have := h.siz; omega), p9 := rp hi h.p9 }⟩
      · have hi : 9 < d.size := by omega
        have e8 := h.p8 (hpre _ rfl ⟨8, .data⟩ (by simp) rfl)
        refine wpOp_plain rfl rfl ?_
        go_simp
        exact ⟨_, rfl, { bel := h.bel, siz := (by simpa using h.siz), kp := rk h.kp, k1 := rs h.k1, k2 := rs h.k2, k3 := rs h.k3, p0 := rp hi h.p0, p1 := rp hi h.p1, p2 := rp hi h.p2, p3 := rp hi h.p3, p4 := rp hi h.p4, p5 := rp hi h.p5, p6 := rp hi h.p6, p7 := rp hi h.p7, p8 := rp hi h.p8, p9 := fun _ => set_same (by have := h.siz; omega) }⟩
    case gendb =>
      intro d a wc hd hI hall
      obtain ⟨t, rfl, h⟩ := hI
      have hdn : ∀ j, j < 10 → dn d j := fun j hj => dn_all hd hall hj
      have hd : ∀ j, (_ : j < 10 := by decide) → dn d j := fun j hj => hdn j hj
      have hfe := frame_eq [(4, _), (5, _), (6, _), (7, _), (8, _), (9, _), (10, _), (11, _), (12, _), (13, _)] (h.siz.trans rfl) h.kp rfl ⟨h.p9 (hd 9), h.p0 (hd 0), h.p1 (hd 1), h.p2 (hd 2), h.p3 (hd 3), h.p4 (hd 4), h.p5 (hd 5), h.p6 (hd 6), h.p7 (hd 7), h.p8 (hd 8), trivial⟩
      simp only [List.foldl_cons, List.foldl_nil, List.setIfInBounds_toArray, List.set_cons_succ, List.set_cons_zero] at hfe
      have hbc := h.bel
      subst hfe
      clear h hdn hd hall
      have HBF := Lib.hid (HBA.out.trans (hbc.mono HBA.out.size))
      clear hbc
      go_wp2_with fail
      go_ret
      exact ⟨ret_bool HM.out, HBF.out⟩
  · have HM : Hid (false = Sg.bearsB k0 s0 per ⟨kb, sb, la, ua⟩) := Lib.hid (by
      unfold Sg.bearsB
      by_cases e : kb = k0
      · have : ¬ sb = s0 := fun q => hn ⟨e, q⟩
        simp [this]
      · simp [e])
    by_cases hk : kb = k0
    · have ht : (sb.toList == s0.toList) = false := Lx.toList_ne fun q => hn ⟨hk, q⟩
      subst hk
      clear hn
      go_enter Tryz.func88, Tryz.ntmps88
      go_upto_region 1 with fail
      rw [← HWA.out]
      refine wp_region_inv2T (fun T0 => GbaI T0 wA kb sb la ua kb s0 per w.heap.size nb pb false) (by kernel_rfl) (by kernel_rfl) ?g0a ?gstepa ?genda
      case g0a =>
        have hno : ∀ j, ¬ dn (Array.replicate 10 false) j := by
          intro j; unfold dn; by_cases hj : j < 10 <;> simp [Array.getD, hj]
        have na : ∀ {j : Nat} {Z : Prop}, dn (Array.replicate 10 false) j → Z := fun hj => absurd hj (hno _)
        exact ⟨_, rfl, { bel := (Below.refl _ _).drew, siz := rfl, kp := fun _ _ => rfl, k1 := rfl, k2 := rfl, k3 := rfl, p0 := na, p1 := na, p2 := na, p3 := na, p4 := na, p5 := na, p6 := na, p7 := na, p8 := na, p9 := na }⟩
      case gstepa =>
        intro T0 d a wc i hd hI hi
        obtain ⟨hlt, hnd, hpre⟩ := mem_ready hi
        have hd' : d.size = 10 := hd
        have hin : i < 10 := hlt
        clear hi hd hlt
        obtain ⟨t, rfl, h⟩ := hI
        have hcs : i = 0 ∨ i = 1 ∨ i = 2 ∨ i = 3 ∨ i = 4 ∨ i = 5 ∨ i = 6 ∨ i = 7 ∨ i = 8 ∨ i = 9 := by omega
        rcases hcs with rfl | rfl | rfl | rfl | rfl | rfl | rfl | rfl | rfl | rfl
        · have hi : 0 < d.size := by omega
          have q3 := h.k3
          obtain ⟨m0, m1, m2, m3, n0, n1, r0⟩ := CA.out wc h.bel
          refine wpOp_plain rfl rfl ?_
          go_simp
          exact ⟨_, rfl, { bel := h.bel, siz := (by simpa using h.siz), kp := rk h.kp, k1 := rs h.k1, k2 := rs h.k2, k3 := rs h.k3, p0 := fun _ => set_same (by have := h.siz; omega), p1 := rp hi h.p1, p2 := rp hi h.p2, p3 := rp hi h.p3, p4 := rp hi h.p4, p5 := rp hi h.p5, p6 := rp hi h.p6, p7 := rp hi h.p7, p8 := rp hi h.p8, p9 := rp hi h.p9 }⟩
        · have hi : 1 < d.size := by omega
          have e0 := h.p0 (hpre _ rfl ⟨0, .data⟩ (by simp) rfl)
          refine wpOp_plain rfl rfl ?_
          go_simp
          refine (gOf_any ⟨kb, sb, la, ua⟩ wc).mono ?_
          rintro e1 w1 ⟨rfl, hb⟩
          exact ⟨_, rfl, { bel := h.bel.trans (hb.mono h.bel.size), siz := (by simpa using h.siz), kp := rk h.kp, k1 := rs h.k1, k2 := rs h.k2, k3 := rs h.k3, p0 := rp hi h.p0, p1 := fun _ => set_same (by have := h.siz; omega), p2 := rp hi h.p2, p3 := rp hi h.p3, p4 := rp hi h.p4, p5 := rp hi h.p5, p6 := rp hi h.p6, p7 := rp hi h.p7, p8 := rp hi h.p8, p9 := rp hi h.p9 }⟩
        · have hi : 2 < d.size := by omega
          have q1 := h.k1
          obtain ⟨m0, m1, m2, m3, n0, n1, r0⟩ := CA.out wc h.bel
          refine wpOp_plain rfl rfl ?_
          go_simp
          exact ⟨_, rfl, { bel := h.bel, siz := (by simpa using h.siz), kp := rk h.kp, k1 := rs h.k1, k2 := rs h.k2, k3 := rs h.k3, p0 := rp hi h.p0, p1 := rp hi h.p1, p2 := fun _ => set_same (by have := h.siz; omega), p3 := rp hi h.p3, p4 := rp hi h.p4, p5 := rp hi h.p5, p6 := rp hi h.p6, p7 := rp hi h.p7, p8 := rp hi h.p8, p9 := rp hi h.p9 }⟩
        · have hi : 3 < d.size := by omega
          have e1 := h.p1 (hpre _ rfl ⟨1, .data⟩ (by simp) rfl)
          have e2 := h.p2 (hpre _ rfl ⟨2, .data⟩ (by simp) rfl)
          refine wpOp_plain rfl rfl ?_
          go_simp
          exact ⟨_, rfl, { bel := h.bel, siz := (by simpa using h.siz), kp := rk h.kp, k1 := rs h.k1, k2 := rs h.k2, k3 := rs h.k3, p0 := rp hi h.p0, p1 := rp hi h.p1, p2 := rp hi h.p2, p3 := fun _ => set_same (by have := h.siz; omega), p4 := rp hi h.p4, p5 := rp hi h.p5, p6 := rp hi h.p6, p7 := rp hi h.p7, p8 := rp hi h.p8, p9 := rp hi h.p9 }⟩
        · have hi : 4 < d.size := by omega
          have e3 := h.p3 (hpre _ rfl ⟨3, .data⟩ (by simp) rfl)
          refine wpOp_plain rfl rfl ?_
          go_simp
          exact ⟨_, rfl, { bel := h.bel, siz := (by simpa using h.siz), kp := rk h.kp, k1 := rs h.k1, k2 := rs h.k2, k3 := rs h.k3, p0 := rp hi h.p0, p1 := rp hi h.p1, p2 := rp hi h.p2, p3 := rp hi h.p3, p4 := fun _ => set_same (by have := h.siz; omega), p5 := rp hi h.p5, p6 := rp hi h.p6, p7 := rp hi h.p7, p8 := rp hi h.p8, p9 := rp hi h.p9 }⟩
        · have hi : 5 < d.size := by omega
          refine wpOp_idle rfl (unwanted_of (d := 9) rfl rfl (h.p4 (hpre _ rfl ⟨4, .guard⟩ (by simp) rfl)) (by decide)) ?_
          exact ⟨_, rfl, { bel := h.bel, siz := (by simpa using h.siz), kp := rk h.kp, k1 := rs h.k1, k2 := rs h.k2, k3 := rs h.k3, p0 := rp hi h.p0, p1 := rp hi h.p1, p2 := rp hi h.p2, p3 := rp hi h.p3, p4 := rp hi h.p4, p5 := fun _ => set_same (by have := h.siz; show _ < t.size; omega), p6 := rp hi h.p6, p7 := rp hi h.p7, p8 := rp hi h.p8, p9 := rp hi h.p9 }⟩
        · have hi : 6 < d.size := by omega
          refine wpOp_idle rfl (unwanted_of (d := 9) rfl rfl (h.p4 (hpre _ rfl ⟨4, .guard⟩ (by simp) rfl)) (by decide)) ?_
          exact ⟨_, rfl, { bel := h.bel, siz := (by simpa using h.siz), kp := rk h.kp, k1 := rs h.k1, k2 := rs h.k2, k3 := rs h.k3, p0 := rp hi h.p0, p1 := rp hi h.p1, p2 := rp hi h.p2, p3 := rp hi h.p3, p4 := rp hi h.p4, p5 := rp hi h.p5, p6 := fun _ => set_same (by have := h.siz; show _ < t.size; omega), p7 := rp hi h.p7, p8 := rp hi h.p8, p9 := rp hi h.p9 }⟩
        · have hi : 7 < d.size := by omega
          refine wpOp_idle rfl (unwanted_of (d := 9) rfl rfl (h.p4 (hpre _ rfl ⟨4, .guard⟩ (by simp) rfl)) (by decide)) ?_
          exact ⟨_, rfl, { bel := h.bel, siz := (by simpa using h.siz), kp := rk h.kp, k1 := rs h.k1, k2 := rs h.k2, k3 := rs h.k3, p0 := rp hi h.p0, p1 := rp hi h.p1, p2 := rp hi h.p2, p3 := rp hi h.p3, p4 := rp hi h.p4, p5 := rp hi h.p5, p6 := rp hi h.p6, p7 := fun _ => set_same (by have := h.siz; show _ < t.size; omega), p8 := rp hi h.p8, p9 := rp hi h.p9 }⟩
        · have hi : 8 < d.size := by omega
          have e4 := h.p4 (hpre _ rfl ⟨4, .data⟩ (by simp) rfl)
          have e7 := h.p7 (hpre _ rfl ⟨7, .data⟩ (by simp) rfl)
          refine wpOp_plain rfl rfl ?_
          go_simp
          exact ⟨_, rfl, { bel := h.bel, siz := (by simpa using h.siz), kp := rk h.kp, k1 := rs h.k1, k2 := rs h.k2, k3 := rs h.k3, p0 := rp hi h.p0, p1 := rp hi h.p1, p2 := rp hi h.p2, p3 := rp hi h.p3, p4 := rp hi h.p4, p5 := rp hi h.p5, p6 := rp hi h.p6, p7 := rp hi h.p7, p8 := fun _ => set_same (by have := h.siz; omega), p9 := rp hi h.p9 }⟩
        · have hi : 9 < d.size := by omega
          have e8 := h.p8 (hpre _ rfl ⟨8, .data⟩ (by simp) rfl)
          refine wpOp_plain rfl rfl ?_
          go_simp
          exact ⟨_, rfl, { bel := h.bel, siz := (by simpa using h.siz), kp := rk h.kp, k1 := rs h.k1, k2 := rs h.k2, k3 := rs h.k3, p0 := rp hi h.p0, p1 := rp hi h.p1, p2 := rp hi h.p2, p3 := rp hi h.p3, p4 := rp hi h.p4, p5 := rp hi h.p5, p6 := rp hi h.p6, p7 := rp hi h.p7, p8 := rp hi h.p8, p9 := fun _ => set_same (by have := h.siz; omega) }⟩
      case genda =>
        intro d a wc hd hI hall
        obtain ⟨t, rfl, h⟩ := hI
        have hdn : ∀ j, j < 10 → dn d j := fun j hj => dn_all hd hall hj
        have hd : ∀ j, (_ : j < 10 := by decide) → dn d j := fun j hj => hdn j hj
        have hfe := frame_eq [(4, _), (5, _), (6, _), (7, _), (8, _), (9, _), (10, _), (11, _), (12, _), (13, _)] (h.siz.trans rfl) h.kp rfl ⟨h.p9 (hd 9), h.p0 (hd 0), h.p1 (hd 1), h.p2 (hd 2), h.p3 (hd 3), h.p4 (hd 4), h.p5 (hd 5), h.p6 (hd 6), h.p7 (hd 7), h.p8 (hd 8), trivial⟩
        simp only [List.foldl_cons, List.foldl_nil, List.setIfInBounds_toArray, List.set_cons_succ, List.set_cons_zero] at hfe
        have hbc := h.bel
        subst hfe
        clear h hdn hd hall
        have HBF := Lib.hid (HBA.out.trans (hbc.mono HBA.out.size))
        clear hbc
        go_wp2_with fail
        go_ret
        exact ⟨ret_bool HM.out, HBF.out⟩
    · have hk' : (kb == k0) = false := by rw [beq_eq_false_iff_ne]; exact hk
      clear hn hk
      go_enter Tryz.func88, Tryz.ntmps88
      go_upto_region 1 with fail
      rw [← HWA.out]
      refine wp_region_inv2T (fun T0 => GbaI T0 wA kb sb la ua k0 s0 per w.heap.size nb pb false) (by kernel_rfl) (by kernel_rfl) ?g0a ?gstepa ?genda
      case g0a =>
        have hno : ∀ j, ¬ dn (Array.replicate 10 false) j := by
          intro j; unfold dn; by_cases hj : j < 10 <;> simp [Array.getD, hj]
        have na : ∀ {j : Nat} {Z : Prop}, dn (Array.replicate 10 false) j → Z := fun hj => absurd hj (hno _)
        exact ⟨_, rfl, { bel := (Below.refl _ _).drew, siz := rfl, kp := fun _ _ => rfl, k1 := rfl, k2 := rfl, k3 := rfl, p0 := na, p1 := na, p2 := na, p3 := na, p4 := na, p5 := na, p6 := na, p7 := na, p8 := na, p9 := na }⟩
      case gstepa =>
        intro T0 d a wc i hd hI hi
        obtain ⟨hlt, hnd, hpre⟩ := mem_ready hi
        have hd' : d.size = 10 := hd
        have hin : i < 10 := hlt
        clear hi hd hlt
        obtain ⟨t, rfl, h⟩ := hI
        have hcs : i = 0 ∨ i = 1 ∨ i = 2 ∨ i = 3 ∨ i = 4 ∨ i = 5 ∨ i = 6 ∨ i = 7 ∨ i = 8 ∨ i = 9 := by omega
        rcases hcs with rfl | rfl | rfl | rfl | rfl | rfl | rfl | rfl | rfl | rfl
        · have hi : 0 < d.size := by omega
          have q3 := h.k3
          obtain ⟨m0, m1, m2, m3, n0, n1, r0⟩ := CA.out wc h.bel
          refine wpOp_plain rfl rfl ?_
          go_simp
          exact ⟨_, rfl, { bel := h.bel, siz := (by simpa using h.siz), kp := rk h.kp, k1 := rs h.k1, k2 := rs h.k2, k3 := rs h.k3, p0 := fun _ => set_same (by have := h.siz; omega), p1 := rp hi h.p1, p2 := rp hi h.p2, p3 := rp hi h.p3, p4 := rp hi h.p4, p5 := rp hi h.p5, p6 := rp hi h.p6, p7 := rp hi h.p7, p8 := rp hi h.p8, p9 := rp hi h.p9 }⟩
        · have hi : 1 < d.size := by omega
          have e0 := h.p0 (hpre _ rfl ⟨0, .data⟩ (by simp) rfl)
          refine wpOp_plain rfl rfl ?_
          go_simp
          refine (gOf_any ⟨kb, sb, la, ua⟩ wc).mono ?_
          rintro e1 w1 ⟨rfl, hb⟩
          exact ⟨_, rfl, { bel := h.bel.trans (hb.mono h.bel.size), siz := (by simpa using h.siz), kp := rk h.kp, k1 := rs h.k1, k2 := rs h.k2, k3 := rs h.k3, p0 := rp hi h.p0, p1 := fun _ => set_same (by have := h.siz; omega), p2 := rp hi h.p2, p3 := rp hi h.p3, p4 := rp hi h.p4, p5 := rp hi h.p5, p6 := rp hi h.p6, p7 := rp hi h.p7, p8 := rp hi h.p8, p9 := rp hi h.p9 }⟩
        · have hi : 2 < d.size := by omega
          have q1 := h.k1
          obtain ⟨m0, m1, m2, m3, n0, n1, r0⟩ := CA.out wc h.bel
          refine wpOp_plain rfl rfl ?_
          go_simp
          exact ⟨_, rfl, { bel := h.bel, siz := (by simpa using h.siz), kp := rk h.kp, k1 := rs h.k1, k2 := rs h.k2, k3 := rs h.k3, p0 := rp hi h.p0, p1 := rp hi h.p1, p2 := fun _ => set_same (by have := h.siz; omega), p3 := rp hi h.p3, p4 := rp hi h.p4, p5 := rp hi h.p5, p6 := rp hi h.p6, p7 := rp hi h.p7, p8 := rp hi h.p8, p9 := rp hi h.p9 }⟩
        · have hi : 3 < d.size := by omega
          have e1 := h.p1 (hpre _ rfl ⟨1, .data⟩ (by simp) rfl)
          have e2 := h.p2 (hpre _ rfl ⟨2, .data⟩ (by simp) rfl)
          refine wpOp_plain rfl rfl ?_
          go_simp
          exact ⟨_, rfl, { bel := h.bel, siz := (by simpa using h.siz), kp := rk h.kp, k1 := rs h.k1, k2 := rs h.k2, k3 := rs h.k3, p0 := rp hi h.p0, p1 := rp hi h.p1, p2 := rp hi h.p2, p3 := fun _ => set_same (by have := h.siz; omega), p4 := rp hi h.p4, p5 := rp hi h.p5, p6 := rp hi h.p6, p7 := rp hi h.p7, p8 := rp hi h.p8, p9 := rp hi h.p9 }⟩
        · have hi : 4 < d.size := by omega
          have e3 := h.p3 (hpre _ rfl ⟨3, .data⟩ (by simp) rfl)
          refine wpOp_plain rfl rfl ?_
          go_simp
          exact ⟨_, rfl, { bel := h.bel, siz := (by simpa using h.siz), kp := rk h.kp, k1 := rs h.k1, k2 := rs h.k2, k3 := rs h.k3, p0 := rp hi h.p0, p1 := rp hi h.p1, p2 := rp hi h.p2, p3 := rp hi h.p3, p4 := fun _ => set_same (by have := h.siz; omega), p5 := rp hi h.p5, p6 := rp hi h.p6, p7 := rp hi h.p7, p8 := rp hi h.p8, p9 := rp hi h.p9 }⟩
        · have hi : 5 < d.size := by omega
          refine wpOp_idle rfl (unwanted_of (d := 9) rfl rfl (h.p4 (hpre _ rfl ⟨4, .guard⟩ (by simp) rfl)) (by decide)) ?_
          exact ⟨_, rfl, { bel := h.bel, siz := (by simpa using h.siz), kp := rk h.kp, k1 := rs h.k1, k2 := rs h.k2, k3 := rs h.k3, p0 := rp hi h.p0, p1 := rp hi h.p1, p2 := rp hi h.p2, p3 := rp hi h.p3, p4 := rp hi h.p4, p5 := fun _ => set_same (by have := h.siz; show _ < t.size; omega), p6 := rp hi h.p6, p7 := rp hi h.p7, p8 := rp hi h.p8, p9 := rp hi h.p9 }⟩
        · have hi : 6 < d.size := by omega
          refine wpOp_idle rfl (unwanted_of (d := 9) rfl rfl (h.p4 (hpre _ rfl ⟨4, .guard⟩ (by simp) rfl)) (by decide)) ?_
          exact ⟨_, rfl, { bel := h.bel, siz := (by simpa using h.siz), kp := rk h.kp, k1 := rs h.k1, k2 := rs h.k2, k3 := rs h.k3, p0 := rp hi h.p0, p1 := rp hi h.p1, p2 := rp hi h.p2, p3 := rp hi h.p3, p4 := rp hi h.p4, p5 := rp hi h.p5, p6 := fun _ => set_same (by have := h.siz; show _ < t.size; omega), p7 := rp hi h.p7, p8 := rp hi h.p8, p9 := rp hi h.p9 }⟩
        · have hi : 7 < d.size := by omega
          refine wpOp_idle rfl (unwanted_of (d := 9) rfl rfl (h.p4 (hpre _ rfl ⟨4, .guard⟩ (by simp) rfl)) (by decide)) ?_
          exact ⟨_, rfl, { bel := h.bel, siz := (by simpa using h.siz), kp := rk h.kp, k1 := rs h.k1, k2 := rs h.k2, k3 := rs h.k3, p0 := rp hi h.p0, p1 := rp hi h.p1, p2 := rp hi h.p2, p3 := rp hi h.p3, p4 := rp hi h.p4, p5 := rp hi h.p5, p6 := rp hi h.p6, p7 := fun _ => set_same (by have := h.siz; show _ < t.size; omega), p8 := rp hi h.p8, p9 := rp hi h.p9 }⟩
        · have hi : 8 < d.size := by omega
          have e4 := h.p4 (hpre _ rfl ⟨4, .data⟩ (by simp) rfl)
          have e7 := h.p7 (hpre _ rfl ⟨7, .data⟩ (by simp) rfl)
          refine wpOp_plain rfl rfl ?_
          go_simp
          exact ⟨_, rfl, { bel := h.bel, siz := (by simpa using h.siz), kp := rk h.kp, k1 := rs h.k1, k2 := rs h.k2, k3 := rs h.k3, p0 := rp hi h.p0, p1 := rp hi h.p1, p2 := rp hi h.p2, p3 := rp hi h.p3, p4 := rp hi h.p4, p5 := rp hi h.p5, p6 := rp hi h.p6, p7 := rp hi h.p7, p8 := fun _ => set_same (by have := h.siz; omega), p9 := rp hi h.p9 }⟩
        · have hi : 9 < d.size := by omega
          have e8 := h.p8 (hpre _ rfl ⟨8, .data⟩ (by simp) rfl)
          refine wpOp_plain rfl rfl ?_
          go_simp
          exact ⟨_, rfl, { bel := h.bel, siz := (by simpa using h.siz), kp := rk h.kp, k1 := rs h.k1, k2 := rs h.k2, k3 := rs h.k3, p0 := rp hi h.p0, p1 := rp hi h.p1, p2 := rp hi h.p2, p3 := rp hi h.p3, p4 := rp hi h.p4, p5 := rp hi h.p5, p6 := rp hi h.p6, p7 := rp hi h.p7, p8 := rp hi h.p8, p9 := fun _ => set_same (by have := h.siz; omega) }⟩
      case genda =>
        intro d a wc hd hI hall
        obtain ⟨t, rfl, h⟩ := hI
        have hdn : ∀ j, j < 10 → dn d j := fun j hj => dn_all hd hall hj
        have hd : ∀ j, (_ : j < 10 := by decide) → dn d j := fun j hj => hdn j hj
        have hfe := frame_eq [(4, _), (5, _), (6, _), (7, _), (8, _), (9, _), (10, _), (11, _), (12, _), (13, _)] (h.siz.trans rfl) h.kp rfl ⟨h.p9 (hd 9), h.p0 (hd 0), h.p1 (hd 1), h.p2 (hd 2), h.p3 (hd 3), h.p4 (hd 4), h.p5 (hd 5), h.p6 (hd 6), h.p7 (hd 7), h.p8 (hd 8), trivial⟩
        simp only [List.foldl_cons, List.foldl_nil, List.setIfInBounds_toArray, List.set_cons_succ, List.set_cons_zero] at hfe
        have hbc := h.bel
        subst hfe
        clear h hdn hd hall
        have HBF := Lib.hid (HBA.out.trans (hbc.mono HBA.out.size))
        clear hbc
        go_wp2_with fail
        go_ret
        exact ⟨ret_bool HM.out, HBF.out⟩
def Sg.bearTo (l : List Sg.Sign) (kind : Int) (text : ByteArray) (p : Int) (k : Nat) : List Int := ((List.range k).filter fun i => match l[i]? with | some s => Sg.hasB s kind text p | none => false).map fun (i : Nat) => (i : Int)
theorem Sg.bearTo_yes {l : List Sg.Sign} {kind : Int} {text : ByteArray} {p : Int} {k : Nat} {s : Sg.Sign} (h : l[k]? = some s) (hb : Sg.hasB s kind text p = true) : Sg.bearTo l kind text p (k + 1) = Sg.bearTo l kind text p k ++ [(k : Int)] := by
  unfold Sg.bearTo
  rw [List.range_succ, List.filter_append, List.map_append]
  simp [h, hb]
theorem Sg.bearTo_no {l : List Sg.Sign} {kind : Int} {text : ByteArray} {p : Int} {k : Nat} {s : Sg.Sign} (h : l[k]? = some s) (hb : Sg.hasB s kind text p = false) : Sg.bearTo l kind text p (k + 1) = Sg.bearTo l kind text p k := by
  unfold Sg.bearTo
  rw [List.range_succ, List.filter_append, List.map_append]
  simp [h, hb]
theorem Sg.bearTo_len (l : List Sg.Sign) (kind : Int) (text : ByteArray) (p : Int) (k : Nat) : (Sg.bearTo l kind text p k).length ≤ k := by
  unfold Sg.bearTo
  rw [List.length_map]
  exact Nat.le_trans (List.length_filter_le _ _) (by simp)
def RetInts (q : List Int) (w : World) (e : Ending) (w' : World) : Prop := ∃ v, e = .returned v ∧ w'.ownsRow w.heap.size 3 1 v q.length (q.flatMap encInt) ∧ Below w.heap.size w w'
theorem rd_one_int (W : World) (z : Int) : RdS (W.alloc (.cells #[.int .i64 z] 3)) (W.alloc (.cells #[.int .i64 z] 3)).heap.size 1 encInt (.slice (some ⟨W.heap.size, 0, none⟩) 1 1) [z] :=
  rds_block (xs := [z]) len_int (heap_alloc_new W _) rfl (by simp) (Nat.le_refl 1) (by decide)
theorem own_int {w' : World} {base : Nat} {v' : Value} {l : List Int} {z : Int} (h : w'.ownsRow base 3 1 v' (l.length + 1) (l.flatMap encInt ++ [z].flatMap encInt)) : w'.ownsRow base 3 1 v' (l ++ [z]).length ((l ++ [z]).flatMap encInt) := by
  rw [List.length_append, List.flatMap_append]
  exact h
set_option maxRecDepth 100000 in
set_option maxHeartbeats 8000000 in
theorem gBearersL_any (v : Value) (l : Sg.SList) (k0 : Int) (s0 : ByteArray) (per : Int) (w : World) (hr : RdSL w w.heap.size v l) (hlen : l.signs.length ≤ 1000) : Calls Tryz.prog 53 #[v, .agg #[.int .i64 k0, .string s0], .int .i64 per] w (RetInts (Sg.bearV l.signs k0 s0 per) w) := by
  obtain ⟨⟨u, rfl, hg⟩, hf⟩ := hr
  have hn0 := hg.len
  obtain ⟨A0, c0, rfl⟩ := hg.form
  have HG0 := Lib.hid hg
  obtain ⟨W1, hW1⟩ : ∃ W1, W1 = ((w.alloc (.cells #[.int .i64 l.periods, .slice A0 l.signs.length c0] 24)).alloc (.cells #[.int .i64 k0, .string s0] 74)).alloc (.cells #[.int .i64 per] 3) := ⟨_, rfl⟩
  have hb1 : Below w.heap.size w W1 := by rw [hW1]; exact (((Below.refl _ _).alloc (Nat.le_refl _) _).alloc (by simp) _).alloc (by simp; omega) _
  have hX : W1.heap[w.heap.size]? = some (.cells #[.int .i64 l.periods, .slice A0 l.signs.length c0] 24 (0, 0)) := by rw [hW1, Below.heap_alloc _ _ _ (by simp; omega)]; exact start_fst w _ _
  have hY : W1.heap[w.heap.size + 1]? = some (.cells #[.int .i64 k0, .string s0] 74 (0, 0)) := by rw [hW1, Below.heap_alloc _ _ _ (by simp)]; exact start_res' w _ _
  have hZ : W1.heap[w.heap.size + 2]? = some (.cells #[.int .i64 per] 3 (0, 0)) := by
    rw [hW1]
    have := heap_alloc_new ((w.alloc (.cells #[.int .i64 l.periods, .slice A0 l.signs.length c0] 24)).alloc (.cells #[.int .i64 k0, .string s0] 74)) (.cells #[.int .i64 per] 3)
    simpa using this
  have hs1 : w.heap.size + 2 < W1.heap.size := (Array.getElem?_eq_some_iff.1 hZ).1
  have x1 : W1.cell? ⟨w.heap.size, 1, none⟩ = some (.slice A0 l.signs.length c0) := by simp [World.cell?, hX]
  have CN : Hid (∀ W, Below W1.heap.size W1 W → W.cell? ⟨w.heap.size + 1, 0, none⟩ = some (.int .i64 k0) ∧ W.cell? ⟨w.heap.size + 1, 1, none⟩ = some (.string s0) ∧ W.cell? ⟨w.heap.size + 2, 0, none⟩ = some (.int .i64 per)) := Lib.hid fun W hW => by
    have p := (hW.block _ (by omega)).trans hY
    have q := (hW.block _ hs1).trans hZ
    exact ⟨by simp [World.cell?, p], by simp [World.cell?, p], by simp [World.cell?, q]⟩
  have HB1 := Lib.hid hb1
  have HW1 := Lib.hid hW1
  obtain ⟨i1, hi1, hz1, hs1', hb1'⟩ := info_parts info_int
  clear hg hf hW1 hb1 hX hY hZ
  go_enter Tryz.func53, Tryz.ntmps53
  go_upto_region 1 with fail
  rw [← HW1.out]
  go_wp2_with fail
  clear x1
  go_loopg [7, 13] l.signs.length (fun g vv i wr => ∃ (k : Nat) (q : List Int), k ≤ l.signs.length ∧ g = l.signs.length - k ∧ i = .int .i64 k ∧ Below W1.heap.size W1 wr ∧ wr.ownsRow W1.heap.size 3 1 vv q.length (q.flatMap encInt) ∧ q = Sg.bearTo l.signs k0 s0 per k)
  case atStart => exact ⟨0, [], Nat.zero_le _, rfl, rfl, Below.refl _ _, World.ownsRow_nil _ _ _ _, rfl⟩
  case round =>
    obtain ⟨k, q, hk, rfl, rfl, hbel, hown, hq⟩ := hrel
    obtain ⟨Av, cv, rfl⟩ := own_form hown
    have HBK := Lib.hid hbel
    have HOK := Lib.hid hown
    have HQ := Lib.hid hq
    have hszr := hbel.size
    have hql : q.length ≤ k := by rw [hq]; exact Sg.bearTo_len _ _ _ _ _
    have HBW : Hid (Below w.heap.size w wr) := Lib.hid (HB1.out.trans (hbel.mono (by omega)))
    clear hbel hown hq
    by_cases hlt : k < l.signs.length
    · obtain ⟨b, off, rfl, hb, hcell⟩ := HG0.out.five (by omega)
      obtain ⟨s, hs⟩ : ∃ s, l.signs[k]? = some s := ⟨_, List.getElem?_eq_getElem hlt⟩
      obtain ⟨uv, hrd, g0, g1, g2, g3, g4⟩ := hcell k s hs
      have f0 := (HBW.out.cell (p := ⟨b, off + k * 5, none⟩) hb).trans g0
      have f1 := (HBW.out.cell (p := ⟨b, off + k * 5 + 1, none⟩) hb).trans g1
      have f2 := (HBW.out.cell (p := ⟨b, off + k * 5 + 2, none⟩) hb).trans g2
      have f3 := (HBW.out.cell (p := ⟨b, off + k * 5 + 3, none⟩) hb).trans g3
      have f4 := (HBW.out.cell (p := ⟨b, off + k * 5 + 4, none⟩) hb).trans g4
      obtain ⟨A2, c2, rfl, hvc, hvm⟩ := rds_form hrd.rds
      obtain ⟨wS, hwS⟩ : ∃ wS, wS = wr.alloc (.cells #[.string s.code, .int .i64 s.wide, .int .i64 s.high, .bool s.even, .slice A2 s.values.length c2] 67) := ⟨_, rfl⟩
      have hbS : Below wr.heap.size wr wS := by rw [hwS]; exact (Below.refl _ _).alloc (Nat.le_refl _) _
      have hsb : wS.heap[wr.heap.size]? = some (.cells #[.string s.code, .int .i64 s.wide, .int .i64 s.high, .bool s.even, .slice A2 s.values.length c2] 67 (0, 0)) := by rw [hwS]; exact heap_alloc_new _ _
      have hszS : wr.heap.size < wS.heap.size := by rw [hwS]; simp
      have HBWS := Lib.hid (HBW.out.trans (hbS.mono (by omega)))
      have HB1S : Hid (Below W1.heap.size W1 wS) := Lib.hid (HBK.out.trans (hbS.mono hszr))
      have HBS := Lib.hid hbS
      have s4 : wS.cell? ⟨wr.heap.size, 4, none⟩ = some (.slice A2 s.values.length c2) := by simp [World.cell?, hsb]
      have HRV : Hid (RdS wS wS.heap.size 4 encValue (.slice A2 s.values.length c2) s.values) := Lib.hid ((hrd.rds.below HBWS.out).more HBWS.out.size)
      have HCV := Lib.hid (containsValue_gBearers1 (.pointer (some ⟨w.heap.size + 1, 0, none⟩)) (.pointer (some ⟨w.heap.size + 2, 0, none⟩)) (Sg.bearsB k0 s0 per) s.values _ wS HRV.out (fun w' y _ hw => by
        obtain ⟨r0, r1, r2⟩ := CN.out w' (HB1S.out.trans (hw.mono (by omega)))
        have hsz := hw.size
        exact gBearers1_any y k0 s0 per _ _ w' (by omega) (by omega) r0 r1 r2))
      obtain ⟨hh, hhb⟩ : ∃ hh, hh = s.values.any (Sg.bearsB k0 s0 per) := ⟨_, rfl⟩
      have HHB : Hid (Sg.hasB s k0 s0 per = hh) := Lib.hid (by rw [hhb]; rfl)
      rw [← hhb] at HCV
      have HS := Lib.hid hs
      have HWS := Lib.hid hwS
      have hkI : (0 : Int) ≤ (k : Int) := by omega
      have hkJ : (k : Int) < (l.signs.length : Int) := by omega
      clear hcell hs g0 g1 g2 g3 g4 hrd hwS hbS hsb hhb
      go_upto_region 5 with fail
      rw [← HWS.out]
      clear f0 f1 f2 f3 f4
      go_wp2_with fail
      refine HCV.out.mono ?_
      rintro e w2 ⟨rfl, hb2⟩
      have HB2 : Hid (Below W1.heap.size W1 w2) := Lib.hid (HB1S.out.trans (hb2.mono (by omega)))
      have HBR2 : Hid (Below wr.heap.size wr w2) := Lib.hid (HBS.out.trans (hb2.mono (by omega)))
      have hsz2 := HBR2.out.size
      clear hb2 s4
      cases hh
      · have HNX := Lib.hid (Sg.bearTo_no HS.out HHB.out)
        have HO2 := Lib.hid (keep_own HOK.out HBR2.out)
        go_wp2_with fail
        go_roundg (l.signs.length - (k + 1))
        case measure => omega
        case rel => exact ⟨k + 1, q, by omega, rfl, by go_num, HB2.out, HO2.out, by rw [HNX.out]; exact HQ.out⟩
      · have HNX := Lib.hid (Sg.bearTo_yes HS.out HHB.out)
        have HOS : Hid ((w2.alloc (.cells #[.int .i64 (k : Int)] 3)).ownsRow W1.heap.size 3 1 (.slice Av q.length cv) q.length (q.flatMap encInt)) := Lib.hid (keep_own HOK.out (HBR2.out.alloc (by omega) _))
        have HRD := Lib.hid (rd_one_int w2 (k : Int))
        have hk1 : q.length + 1 ≤ maxLen := by simp only [maxLen]; omega
        have hk2 : (q.length + 1) * 8 ≤ 140737488355328 := by omega
        have hbase : W1.heap.size ≤ (w2.alloc (.cells #[.int .i64 (k : Int)] 3)).heap.size := by simp; omega
        go_wp2_with (at_builtin; go_must (refine wpList_append_rd (enc := encInt) rfl (.tmp 22) (.tmp 24) _ rfl W1.heap.size 3 i1 _ 1 8 len_int one_int Tryz.underlying42 hi1 hz1 hs1' hb1' rfl (by decide) (.slice Av q.length cv) q.length (q.flatMap encInt) rfl HOS.out _ (.slice (some ⟨w2.heap.size, 0, none⟩) 1 1) [(k : Int)] rfl HRD.out hk1 hk2 hbase ?_))
        intro v8 w8 hown8 hg8 hat8
        have HB8 : Hid (Below W1.heap.size W1 w8) := Lib.hid ((HB2.out.alloc (by omega) _).grown hg8 (by simp; omega) (fun q hq => (HOS.out.lt q hq).1))
        have HO8 := Lib.hid (own_int hown8)
        clear hown8 hg8 hat8
        go_wp2_with fail
        go_roundg (l.signs.length - (k + 1))
        case measure => omega
        case rel => exact ⟨k + 1, q ++ [(k : Int)], by omega, rfl, by go_num, HB8.out, HO8.out, by rw [HNX.out, ← HQ.out]⟩
    · have HE : Hid (q = Sg.bearV l.signs k0 s0 per) := Lib.hid (by
        rw [HQ.out]
        have : k = l.signs.length := by omega
        rw [this]; rfl)
      go_wp2_with fail
      go_ret
      exact ⟨_, rfl, by rw [← HE.out]; exact HOK.out.mono (by omega), HBW.out⟩
end Go.Proofs.YtkmimjngmfdpmaaGreatDoor
