/- lexicon.compare, (lexicon.table).compare. Made by gen_rank.py. -/
import Derived.Test.YtpmnpnlfgfleeaaGreatDoorMgRegion4
import Derived.Test.YtpmnpnlfgfleeaaGreatDoorMgStem
import Derived.Test.YtpmnpnlfgfleeaaGreatDoorMgTails
import Derived.BigQuiet
namespace Go.Proofs.YtpmnpnlfgfleeaaGreatDoor
open Go.RowKit

theorem rds_keep {α : Type} {size : Nat} {enc : α → List Value} {w w1 : World} {v : Value} {xs : List α} (hb : Below w.heap.size w w1) (h : RdS w w.heap.size size enc v xs) : RdS w1 w1.heap.size size enc v xs :=
  ((RdX.of h).keep (w' := w1) (ok' := fun b => b < w1.heap.size) (fun b hk => ⟨Nat.lt_of_lt_of_le hk hb.size, hb.block b hk⟩)).to (fun _ hk => hk)
theorem orV_any (v : Value) (a b c : Int) (w : World) (hv : RdS w w.heap.size 1 encInt v [a, b, c]) : Calls Tryz.prog 92 #[v] w (RetI (Lx.or3 a b c) w) := by
  have h := cmpOr_any v [a, b, c] w _ hv (by simp)
  have e : Lx.orV [a, b, c] = Lx.or3 a b c := by
    unfold Lx.orV Lx.orV Lx.orV Lx.orV Lx.or3
    by_cases h1 : a = 0
    · by_cases h2 : b = 0
      · by_cases h3 : c = 0 <;> simp [h1, h2, h3]
      · simp [h1, h2]
    · simp [h1]
  rwa [e] at h
structure CmR (T0 : Array Value) (W0 : World) (ba bb : Nat) (fa fb : Lx.Form) (sa sb : Value) (c1 c2 c3 : Int) (d : Array Bool) (t : Array Value) (wc : World) : Prop where
  bel : Below W0.heap.size W0 wc
  siz : t.size = 22
  kp : ∀ i, i ∉ ([4, 5, 6, 7, 8, 9, 10, 11, 12, 13, 14, 15, 16, 17, 18, 19, 20, 21] : List Nat) → t[i]? = T0[i]?
  k2 : t[2]? = some (.pointer (some ⟨ba, 0, none⟩))
  k3 : t[3]? = some (.pointer (some ⟨bb, 0, none⟩))
  p0 : dn d 0 → t[5]? = some (.pointer (some ⟨ba, 0, none⟩))
  p1 : dn d 1 → t[6]? = some (.int .i64 fa.entry)
  p2 : dn d 2 → t[7]? = some (.pointer (some ⟨bb, 0, none⟩))
  p3 : dn d 3 → t[8]? = some (.int .i64 fb.entry)
  p4 : dn d 4 → t[9]? = some (.int .i64 c1)
  p5 : dn d 5 → t[10]? = some (.pointer (some ⟨ba, 1, none⟩))
  p6 : dn d 6 → t[11]? = some (.int .i64 fa.ending)
  p7 : dn d 7 → t[12]? = some (.pointer (some ⟨bb, 1, none⟩))
  p8 : dn d 8 → t[13]? = some (.int .i64 fb.ending)
  p9 : dn d 9 → t[14]? = some (.int .i64 c2)
  p10 : dn d 10 → t[15]? = some (.pointer (some ⟨ba, 2, none⟩))
  p11 : dn d 11 → t[16]? = some (sa)
  p12 : dn d 12 → t[17]? = some (.pointer (some ⟨bb, 2, none⟩))
  p13 : dn d 13 → t[18]? = some (sb)
  p14 : dn d 14 → t[19]? = some (.int .i64 c3)
  p15 : dn d 15 → ∃ v, t[20]? = some v ∧ RdS wc wc.heap.size 1 encInt v [c1, c2, c3]
  p16 : dn d 16 → t[21]? = some (.int .i64 (Lx.or3 c1 c2 c3))
  p17 : dn d 17 → t[4]? = some (.int .i64 (Lx.or3 c1 c2 c3))
def CmI (T0 : Array Value) (W0 : World) (ba bb : Nat) (fa fb : Lx.Form) (sa sb : Value) (c1 c2 c3 : Int) (d : Array Bool) (a : Act) (wc : World) : Prop := ∃ t : Array Value, a = ⟨t, []⟩ ∧ CmR T0 W0 ba bb fa fb sa sb c1 c2 c3 d t wc

set_option maxRecDepth 100000 in
set_option maxHeartbeats 4000000 in
theorem compare_any (va vb : Value) (a b : Lx.Form) (w : World) (ha : RdF w w.heap.size va a) (hb : RdF w w.heap.size vb b) (hna : a.clitics.length ≤ 1000) (hnb : b.clitics.length ≤ 1000) :
    Calls Tryz.prog 89 #[va, vb] w (RetIB (Lx.fC a b) w) := by
  obtain ⟨⟨sa, rfl, hsa⟩⟩ := ha
  obtain ⟨⟨sb, rfl, hsb⟩⟩ := hb
  have HSA := Lib.hid hsa
  have HSB := Lib.hid hsb
  obtain ⟨A0, c0, rfl, -, -, -⟩ := hsa
  obtain ⟨A1, c1, rfl, -, -, -⟩ := hsb
  obtain ⟨W2, hW2⟩ : ∃ W2, W2 = (w.alloc (.cells #[.int .i64 a.entry, .int .i64 a.ending, .slice A0 a.clitics.length c0] 29)).alloc (.cells #[.int .i64 b.entry, .int .i64 b.ending, .slice A1 b.clitics.length c1] 29) := ⟨_, rfl⟩
  have HBW : Hid (Below w.heap.size w W2) := Lib.hid (by rw [hW2]; exact ((Below.refl _ _).alloc (Nat.le_refl _) _).alloc (by simp) _)
  have hsz : W2.heap.size = w.heap.size + 2 := by rw [hW2]; simp
  have HFA : Hid (W2.heap[w.heap.size]? = some (.cells #[.int .i64 a.entry, .int .i64 a.ending, .slice A0 a.clitics.length c0] 29 (0, 0))) := Lib.hid (by rw [hW2]; exact start_fst w _ _)
  have HFB : Hid (W2.heap[w.heap.size + 1]? = some (.cells #[.int .i64 b.entry, .int .i64 b.ending, .slice A1 b.clitics.length c1] 29 (0, 0))) := Lib.hid (by rw [hW2]; exact start_res2 w _ _)
  have HW2 := Lib.hid hW2
  have CX : Hid (∀ W : World, Below W2.heap.size W2 W → W.cell? ⟨w.heap.size, 0, none⟩ = some (.int .i64 a.entry) ∧ W.cell? ⟨w.heap.size, 1, none⟩ = some (.int .i64 a.ending) ∧ W.cell? ⟨w.heap.size, 2, none⟩ = some (.slice A0 a.clitics.length c0) ∧
      W.cell? ⟨w.heap.size + 1, 0, none⟩ = some (.int .i64 b.entry) ∧ W.cell? ⟨w.heap.size + 1, 1, none⟩ = some (.int .i64 b.ending) ∧ W.cell? ⟨w.heap.size + 1, 2, none⟩ = some (.slice A1 b.clitics.length c1)) := Lib.hid fun W hW => by
    have p := (hW.block w.heap.size (by omega)).trans HFA.out
    have q := (hW.block (w.heap.size + 1) (by omega)).trans HFB.out
    exact ⟨by simp [World.cell?, p], by simp [World.cell?, p], by simp [World.cell?, p], by simp [World.cell?, q], by simp [World.cell?, q], by simp [World.cell?, q]⟩
  have HSL : Hid (∀ W : World, Below W2.heap.size W2 W → Calls Tryz.prog 108 #[.slice A0 a.clitics.length c0, .slice A1 b.clitics.length c1] W (RetI (Lx.slC a.clitics b.clitics) W)) := Lib.hid fun W hW =>
    slCompare_any _ _ _ _ W _ (rds_keep (HBW.out.trans (hW.mono HBW.out.size)) HSA.out) (rds_keep (HBW.out.trans (hW.mono HBW.out.size)) HSB.out) hna hnb
  clear hsz hW2
  go_enter Tryz.func89, Tryz.ntmps89
  go_wp2_with fail
  rw [← HW2.out]
  refine wp_region_inv2T (fun T0 => CmI T0 W2 w.heap.size (w.heap.size + 1) a b (.slice A0 a.clitics.length c0) (.slice A1 b.clitics.length c1) (Lib.compareInt a.entry b.entry) (Lib.compareInt a.ending b.ending) (Lx.slC a.clitics b.clitics)) (by kernel_rfl) (by kernel_rfl) ?g0a ?gstepa ?genda
  case g0a =>
    have hno : ∀ j, ¬ dn (Array.replicate 18 false) j := by
      intro j; unfold dn; by_cases hj : j < 18 <;> simp [Array.getD, hj]
    have na : ∀ {j : Nat} {Z : Prop}, dn (Array.replicate 18 false) j → Z := fun hj => absurd hj (hno _)
    exact ⟨_, rfl, { bel := (Below.refl _ _).drew, siz := rfl, kp := fun _ _ => rfl, k2 := rfl, k3 := rfl, p0 := na, p1 := na, p2 := na, p3 := na, p4 := na, p5 := na, p6 := na, p7 := na, p8 := na, p9 := na, p10 := na, p11 := na, p12 := na, p13 := na, p14 := na, p15 := fun hj => absurd hj (hno _), p16 := na, p17 := na }⟩
  case gstepa =>
    intro T0 d a wc i hd hI hi
    obtain ⟨hlt, hnd, hpre⟩ := mem_ready hi
    have hd' : d.size = 18 := hd
    have hin : i < 18 := hlt
    clear hi hd hlt
    obtain ⟨t, rfl, h⟩ := hI
    have hcs : i = 0 ∨ i = 1 ∨ i = 2 ∨ i = 3 ∨ i = 4 ∨ i = 5 ∨ i = 6 ∨ i = 7 ∨ i = 8 ∨ i = 9 ∨ i = 10 ∨ i = 11 ∨ i = 12 ∨ i = 13 ∨ i = 14 ∨ i = 15 ∨ i = 16 ∨ i = 17 := by omega
    rcases hcs with rfl | rfl | rfl | rfl | rfl | rfl | rfl | rfl | rfl | rfl | rfl | rfl | rfl | rfl | rfl | rfl | rfl | rfl
    · have hi : 0 < d.size := by omega
      have q2 := h.k2
      refine wpOp_plain rfl rfl ?_
      go_simp
      exact ⟨_, rfl, { bel := h.bel, siz := (by simpa using h.siz), kp := rk h.kp, k2 := rs h.k2, k3 := rs h.k3, p0 := fun _ => set_same (by have := h.siz; omega), p1 := rp hi h.p1, p2 := rp hi h.p2, p3 := rp hi h.p3, p4 := rp hi h.p4, p5 := rp hi h.p5, p6 := rp hi h.p6, p7 := rp hi h.p7, p8 := rp hi h.p8, p9 := rp hi h.p9, p10 := rp hi h.p10, p11 := rp hi h.p11, p12 := rp hi h.p12, p13 := rp hi h.p13, p14 := rp hi h.p14, p15 := rc hi h.p15 (fun v h2 => rds_keep (Below.refl _ _) h2), p16 := rp hi h.p16, p17 := rp hi h.p17 }⟩
    · have hi : 1 < d.size := by omega
      have e0 := h.p0 (hpre _ rfl ⟨0, .data⟩ (by simp) rfl)
      obtain ⟨x0, x1, x2, x3, x4, x5⟩ := CX.out wc h.bel
      refine wpOp_plain rfl rfl ?_
      go_simp
      exact ⟨_, rfl, { bel := h.bel, siz := (by simpa using h.siz), kp := rk h.kp, k2 := rs h.k2, k3 := rs h.k3, p0 := rp hi h.p0, p1 := fun _ => set_same (by have := h.siz; omega), p2 := rp hi h.p2, p3 := rp hi h.p3, p4 := rp hi h.p4, p5 := rp hi h.p5, p6 := rp hi h.p6, p7 := rp hi h.p7, p8 := rp hi h.p8, p9 := rp hi h.p9, p10 := rp hi h.p10, p11 := rp hi h.p11, p12 := rp hi h.p12, p13 := rp hi h.p13, p14 := rp hi h.p14, p15 := rc hi h.p15 (fun v h2 => rds_keep (Below.refl _ _) h2), p16 := rp hi h.p16, p17 := rp hi h.p17 }⟩
    · have hi : 2 < d.size := by omega
      have q3 := h.k3
      refine wpOp_plain rfl rfl ?_
      go_simp
      exact ⟨_, rfl, { bel := h.bel, siz := (by simpa using h.siz), kp := rk h.kp, k2 := rs h.k2, k3 := rs h.k3, p0 := rp hi h.p0, p1 := rp hi h.p1, p2 := fun _ => set_same (by have := h.siz; omega), p3 := rp hi h.p3, p4 := rp hi h.p4, p5 := rp hi h.p5, p6 := rp hi h.p6, p7 := rp hi h.p7, p8 := rp hi h.p8, p9 := rp hi h.p9, p10 := rp hi h.p10, p11 := rp hi h.p11, p12 := rp hi h.p12, p13 := rp hi h.p13, p14 := rp hi h.p14, p15 := rc hi h.p15 (fun v h2 => rds_keep (Below.refl _ _) h2), p16 := rp hi h.p16, p17 := rp hi h.p17 }⟩
    · have hi : 3 < d.size := by omega
      have e2 := h.p2 (hpre _ rfl ⟨2, .data⟩ (by simp) rfl)
      obtain ⟨x0, x1, x2, x3, x4, x5⟩ := CX.out wc h.bel
      refine wpOp_plain rfl rfl ?_
      go_simp
      exact ⟨_, rfl, { bel := h.bel, siz := (by simpa using h.siz), kp := rk h.kp, k2 := rs h.k2, k3 := rs h.k3, p0 := rp hi h.p0, p1 := rp hi h.p1, p2 := rp hi h.p2, p3 := fun _ => set_same (by have := h.siz; omega), p4 := rp hi h.p4, p5 := rp hi h.p5, p6 := rp hi h.p6, p7 := rp hi h.p7, p8 := rp hi h.p8, p9 := rp hi h.p9, p10 := rp hi h.p10, p11 := rp hi h.p11, p12 := rp hi h.p12, p13 := rp hi h.p13, p14 := rp hi h.p14, p15 := rc hi h.p15 (fun v h2 => rds_keep (Below.refl _ _) h2), p16 := rp hi h.p16, p17 := rp hi h.p17 }⟩
    · have hi : 4 < d.size := by omega
      have e1 := h.p1 (hpre _ rfl ⟨1, .data⟩ (by simp) rfl)
      have e3 := h.p3 (hpre _ rfl ⟨3, .data⟩ (by simp) rfl)
      refine wpOp_plain rfl rfl ?_
      go_simp
      refine (Tryz.cmp_Compare_int a.entry b.entry wc).mono ?_
      rintro e1 w1 ⟨rfl, rfl⟩
      exact ⟨_, rfl, { bel := h.bel, siz := (by simpa using h.siz), kp := rk h.kp, k2 := rs h.k2, k3 := rs h.k3, p0 := rp hi h.p0, p1 := rp hi h.p1, p2 := rp hi h.p2, p3 := rp hi h.p3, p4 := fun _ => set_same (by have := h.siz; omega), p5 := rp hi h.p5, p6 := rp hi h.p6, p7 := rp hi h.p7, p8 := rp hi h.p8, p9 := rp hi h.p9, p10 := rp hi h.p10, p11 := rp hi h.p11, p12 := rp hi h.p12, p13 := rp hi h.p13, p14 := rp hi h.p14, p15 := rc hi h.p15 (fun v h2 => rds_keep (Below.refl _ _) h2), p16 := rp hi h.p16, p17 := rp hi h.p17 }⟩
    · have hi : 5 < d.size := by omega
      have q2 := h.k2
      refine wpOp_plain rfl rfl ?_
      go_simp
      exact ⟨_, rfl, { bel := h.bel, siz := (by simpa using h.siz), kp := rk h.kp, k2 := rs h.k2, k3 := rs h.k3, p0 := rp hi h.p0, p1 := rp hi h.p1, p2 := rp hi h.p2, p3 := rp hi h.p3, p4 := rp hi h.p4, p5 := fun _ => set_same (by have := h.siz; omega), p6 := rp hi h.p6, p7 := rp hi h.p7, p8 := rp hi h.p8, p9 := rp hi h.p9, p10 := rp hi h.p10, p11 := rp hi h.p11, p12 := rp hi h.p12, p13 := rp hi h.p13, p14 := rp hi h.p14, p15 := rc hi h.p15 (fun v h2 => rds_keep (Below.refl _ _) h2), p16 := rp hi h.p16, p17 := rp hi h.p17 }⟩
    · have hi : 6 < d.size := by omega
      have e5 := h.p5 (hpre _ rfl ⟨5, .data⟩ (by simp) rfl)
      obtain ⟨x0, x1, x2, x3, x4, x5⟩ := CX.out wc h.bel
      refine wpOp_plain rfl rfl ?_
      go_simp
      exact ⟨_, rfl, { bel := h.bel, siz := (by simpa using h.siz), kp := rk h.kp, k2 := rs h.k2, k3 := rs h.k3, p0 := rp hi h.p0, p1 := rp hi h.p1, p2 := rp hi h.p2, p3 := rp hi h.p3, p4 := rp hi h.p4, p5 := rp hi h.p5, p6 := fun _ => set_same (by have := h.siz; omega), p7 := rp hi h.p7, p8 := rp hi h.p8, p9 := rp hi h.p9, p10 := rp hi h.p10, p11 := rp hi h.p11, p12 := rp hi h.p12, p13 := rp hi h.p13, p14 := rp hi h.p14, p15 := rc hi h.p15 (fun v h2 => rds_keep (Below.refl _ _) h2), p16 := rp hi h.p16, p17 := rp hi h.p17 }⟩
    · have hi : 7 < d.size := by omega
      have q3 := h.k3
      refine wpOp_plain rfl rfl ?_
      go_simp
      exact ⟨_, rfl, { bel := h.bel, siz := (by simpa using h.siz), kp := rk h.kp, k2 := rs h.k2, k3 := rs h.k3, p0 := rp hi h.p0, p1 := rp hi h.p1, p2 := rp hi h.p2, p3 := rp hi h.p3, p4 := rp hi h.p4, p5 := rp hi h.p5, p6 := rp hi h.p6, p7 := fun _ => set_same (by have := h.siz; omega), p8 := rp hi h.p8, p9 := rp hi h.p9, p10 := rp hi h.p10, p11 := rp hi h.p11, p12 := rp hi h.p12, p13 := rp hi h.p13, p14 := rp hi h.p14, p15 := rc hi h.p15 (fun v h2 => rds_keep (Below.refl _ _) h2), p16 := rp hi h.p16, p17 := rp hi h.p17 }⟩
    · have hi : 8 < d.size := by omega
      have e7 := h.p7 (hpre _ rfl ⟨7, .data⟩ (by simp) rfl)
      obtain ⟨x0, x1, x2, x3, x4, x5⟩ := CX.out wc h.bel
      refine wpOp_plain rfl rfl ?_
      go_simp
      exact ⟨_, rfl, { bel := h.bel, siz := (by simpa using h.siz), kp := rk h.kp, k2 := rs h.k2, k3 := rs h.k3, p0 := rp hi h.p0, p1 := rp hi h.p1, p2 := rp hi h.p2, p3 := rp hi h.p3, p4 := rp hi h.p4, p5 := rp hi h.p5, p6 := rp hi h.p6, p7 := rp hi h.p7, p8 := fun _ => set_same (by have := h.siz; omega), p9 := rp hi h.p9, p10 := rp hi h.p10, p11 := rp hi h.p11, p12 := rp hi h.p12, p13 := rp hi h.p13, p14 := rp hi h.p14, p15 := rc hi h.p15 (fun v h2 => rds_keep (Below.refl _ _) h2), p16 := rp hi h.p16, p17 := rp hi h.p17 }⟩
    · have hi : 9 < d.size := by omega
      have e6 := h.p6 (hpre _ rfl ⟨6, .data⟩ (by simp) rfl)
      have e8 := h.p8 (hpre _ rfl ⟨8, .data⟩ (by simp) rfl)
      refine wpOp_plain rfl rfl ?_
      go_simp
      refine (Tryz.cmp_Compare_int a.ending b.ending wc).mono ?_
      rintro e1 w1 ⟨rfl, rfl⟩
      exact ⟨_, rfl, { bel := h.bel, siz := (by simpa using h.siz), kp := rk h.kp, k2 := rs h.k2, k3 := rs h.k3, p0 := rp hi h.p0, p1 := rp hi h.p1, p2 := rp hi h.p2, p3 := rp hi h.p3, p4 := rp hi h.p4, p5 := rp hi h.p5, p6 := rp hi h.p6, p7 := rp hi h.p7, p8 := rp hi h.p8, p9 := fun _ => set_same (by have := h.siz; omega), p10 := rp hi h.p10, p11 := rp hi h.p11, p12 := rp hi h.p12, p13 := rp hi h.p13, p14 := rp hi h.p14, p15 := rc hi h.p15 (fun v h2 => rds_keep (Below.refl _ _) h2), p16 := rp hi h.p16, p17 := rp hi h.p17 }⟩
    · have hi : 10 < d.size := by omega
      have q2 := h.k2
      refine wpOp_plain rfl rfl ?_
      go_simp
      exact ⟨_, rfl, { bel := h.bel, siz := (by simpa using h.siz), kp := rk h.kp, k2 := rs h.k2, k3 := rs h.k3, p0 := rp hi h.p0, p1 := rp hi h.p1, p2 := rp hi h.p2, p3 := rp hi h.p3, p4 := rp hi h.p4, p5 := rp hi h.p5, p6 := rp hi h.p6, p7 := rp hi h.p7, p8 := rp hi h.p8, p9 := rp hi h.p9, p10 := fun _ => set_same (by have := h.siz; omega), p11 := rp hi h.p11, p12 := rp hi h.p12, p13 := rp hi h.p13, p14 := rp hi h.p14, p15 := rc hi h.p15 (fun v h2 => rds_keep (Below.refl _ _) h2), p16 := rp hi h.p16, p17 := rp hi h.p17 }⟩
    · have hi : 11 < d.size := by omega
      have e10 := h.p10 (hpre _ rfl ⟨10, .data⟩ (by simp) rfl)
      obtain ⟨x0, x1, x2, x3, x4, x5⟩ := CX.out wc h.bel
      refine wpOp_plain rfl rfl ?_
      go_simp
      exact ⟨_, rfl, { bel := h.bel, siz := (by simpa using h.siz), kp := rk h.kp, k2 := rs h.k2, k3 := rs h.k3, p0 := rp hi h.p0, p1 := rp hi h.p1, p2 := rp hi h.p2, p3 := rp hi h.p3, p4 := rp hi h.p4, p5 := rp hi h.p5, p6 := rp hi h.p6, p7 := rp hi h.p7, p8 := rp hi h.p8, p9 := rp hi h.p9, p10 := rp hi h.p10, p11 := fun _ => set_same (by have := h.siz; omega), p12 := rp hi h.p12, p13 := rp hi h.p13, p14 := rp hi h.p14, p15 := rc hi h.p15 (fun v h2 => rds_keep (Below.refl _ _) h2), p16 := rp hi h.p16, p17 := rp hi h.p17 }⟩
    · have hi : 12 < d.size := by omega
      have q3 := h.k3
      refine wpOp_plain rfl rfl ?_
      go_simp
      exact ⟨_, rfl, { bel := h.bel, siz := (by simpa using h.siz), kp := rk h.kp, k2 := rs h.k2, k3 := rs h.k3, p0 := rp hi h.p0, p1 := rp hi h.p1, p2 := rp hi h.p2, p3 := rp hi h.p3, p4 := rp hi h.p4, p5 := rp hi h.p5, p6 := rp hi h.p6, p7 := rp hi h.p7, p8 := rp hi h.p8, p9 := rp hi h.p9, p10 := rp hi h.p10, p11 := rp hi h.p11, p12 := fun _ => set_same (by have := h.siz; omega), p13 := rp hi h.p13, p14 := rp hi h.p14, p15 := rc hi h.p15 (fun v h2 => rds_keep (Below.refl _ _) h2), p16 := rp hi h.p16, p17 := rp hi h.p17 }⟩
    · have hi : 13 < d.size := by omega
      have e12 := h.p12 (hpre _ rfl ⟨12, .data⟩ (by simp) rfl)
      obtain ⟨x0, x1, x2, x3, x4, x5⟩ := CX.out wc h.bel
      refine wpOp_plain rfl rfl ?_
      go_simp
      exact ⟨_, rfl, { bel := h.bel, siz := (by simpa using h.siz), kp := rk h.kp, k2 := rs h.k2, k3 := rs h.k3, p0 := rp hi h.p0, p1 := rp hi h.p1, p2 := rp hi h.p2, p3 := rp hi h.p3, p4 := rp hi h.p4, p5 := rp hi h.p5, p6 := rp hi h.p6, p7 := rp hi h.p7, p8 := rp hi h.p8, p9 := rp hi h.p9, p10 := rp hi h.p10, p11 := rp hi h.p11, p12 := rp hi h.p12, p13 := fun _ => set_same (by have := h.siz; omega), p14 := rp hi h.p14, p15 := rc hi h.p15 (fun v h2 => rds_keep (Below.refl _ _) h2), p16 := rp hi h.p16, p17 := rp hi h.p17 }⟩
    · have hi : 14 < d.size := by omega
      have e11 := h.p11 (hpre _ rfl ⟨11, .data⟩ (by simp) rfl)
      have e13 := h.p13 (hpre _ rfl ⟨13, .data⟩ (by simp) rfl)
      refine wpOp_plain rfl rfl ?_
      go_simp
      refine (HSL.out wc h.bel).mono ?_
      rintro e1 w1 ⟨rfl, rfl⟩
      exact ⟨_, rfl, { bel := h.bel, siz := (by simpa using h.siz), kp := rk h.kp, k2 := rs h.k2, k3 := rs h.k3, p0 := rp hi h.p0, p1 := rp hi h.p1, p2 := rp hi h.p2, p3 := rp hi h.p3, p4 := rp hi h.p4, p5 := rp hi h.p5, p6 := rp hi h.p6, p7 := rp hi h.p7, p8 := rp hi h.p8, p9 := rp hi h.p9, p10 := rp hi h.p10, p11 := rp hi h.p11, p12 := rp hi h.p12, p13 := rp hi h.p13, p14 := fun _ => set_same (by have := h.siz; omega), p15 := rc hi h.p15 (fun v h2 => rds_keep (Below.refl _ _) h2), p16 := rp hi h.p16, p17 := rp hi h.p17 }⟩
    · have hi : 15 < d.size := by omega
      have e4 := h.p4 (hpre _ rfl ⟨4, .data⟩ (by simp) rfl)
      have e9 := h.p9 (hpre _ rfl ⟨9, .data⟩ (by simp) rfl)
      have e14 := h.p14 (hpre _ rfl ⟨14, .data⟩ (by simp) rfl)
      have hb : Below wc.heap.size wc (wc.alloc (.cells #[.int .i64 (Lib.compareInt a.entry b.entry), .int .i64 (Lib.compareInt a.ending b.ending), .int .i64 (Lx.slC a.clitics b.clitics)] 3)) := (Below.refl _ _).alloc (Nat.le_refl _) _
      refine wpOp_plain rfl rfl ?_
      go_simp
      exact ⟨_, rfl, { bel := h.bel.trans (hb.mono h.bel.size), siz := (by simpa using h.siz), kp := rk h.kp, k2 := rs h.k2, k3 := rs h.k3, p0 := rp hi h.p0, p1 := rp hi h.p1, p2 := rp hi h.p2, p3 := rp hi h.p3, p4 := rp hi h.p4, p5 := rp hi h.p5, p6 := rp hi h.p6, p7 := rp hi h.p7, p8 := rp hi h.p8, p9 := rp hi h.p9, p10 := rp hi h.p10, p11 := rp hi h.p11, p12 := rp hi h.p12, p13 := rp hi h.p13, p14 := rp hi h.p14, p15 := fun _ => ⟨.slice (some ⟨wc.heap.size, 0, none⟩) 3 3, set_same (by have := h.siz; omega), rds_block (xs := [Lib.compareInt a.entry b.entry, Lib.compareInt a.ending b.ending, Lx.slC a.clitics b.clitics]) len_int (heap_alloc_new _ _) rfl (by simp) (Nat.le_refl 3) (by decide)⟩, p16 := rp hi h.p16, p17 := rp hi h.p17 }⟩
    · have hi : 16 < d.size := by omega
      obtain ⟨v15, e15, r15⟩ := h.p15 (hpre _ rfl ⟨15, .data⟩ (by simp) rfl)
      refine wpOp_plain rfl rfl ?_
      go_simp
      refine (orV_any v15 _ _ _ wc r15).mono ?_
      rintro e1 w1 ⟨rfl, rfl⟩
      exact ⟨_, rfl, { bel := h.bel, siz := (by simpa using h.siz), kp := rk h.kp, k2 := rs h.k2, k3 := rs h.k3, p0 := rp hi h.p0, p1 := rp hi h.p1, p2 := rp hi h.p2, p3 := rp hi h.p3, p4 := rp hi h.p4, p5 := rp hi h.p5, p6 := rp hi h.p6, p7 := rp hi h.p7, p8 := rp hi h.p8, p9 := rp hi h.p9, p10 := rp hi h.p10, p11 := rp hi h.p11, p12 := rp hi h.p12, p13 := rp hi h.p13, p14 := rp hi h.p14, p15 := rc hi h.p15 (fun v h2 => rds_keep (Below.refl _ _) h2), p16 := fun _ => set_same (by have := h.siz; omega), p17 := rp hi h.p17 }⟩
    · have hi : 17 < d.size := by omega
      have e16 := h.p16 (hpre _ rfl ⟨16, .data⟩ (by simp) rfl)
      refine wpOp_plain rfl rfl ?_
      go_simp
      exact ⟨_, rfl, { bel := h.bel, siz := (by simpa using h.siz), kp := rk h.kp, k2 := rs h.k2, k3 := rs h.k3, p0 := rp hi h.p0, p1 := rp hi h.p1, p2 := rp hi h.p2, p3 := rp hi h.p3, p4 := rp hi h.p4, p5 := rp hi h.p5, p6 := rp hi h.p6, p7 := rp hi h.p7, p8 := rp hi h.p8, p9 := rp hi h.p9, p10 := rp hi h.p10, p11 := rp hi h.p11, p12 := rp hi h.p12, p13 := rp hi h.p13, p14 := rp hi h.p14, p15 := rc hi h.p15 (fun v h2 => rds_keep (Below.refl _ _) h2), p16 := rp hi h.p16, p17 := fun _ => set_same (by have := h.siz; omega) }⟩
  case genda =>
    intro d a wc hd hI hall
    obtain ⟨t, rfl, h⟩ := hI
    have hdn : ∀ j, j < 18 → dn d j := fun j hj => dn_all hd hall hj
    have hd : ∀ j, (_ : j < 18 := by decide) → dn d j := fun j hj => hdn j hj
    obtain ⟨v15, e15, r15⟩ := h.p15 (hd 15)
    have hfe := frame_eq [(4, _), (5, _), (6, _), (7, _), (8, _), (9, _), (10, _), (11, _), (12, _), (13, _), (14, _), (15, _), (16, _), (17, _), (18, _), (19, _), (20, v15), (21, _)] (h.siz.trans rfl) h.kp rfl ⟨h.p17 (hd 17), h.p0 (hd 0), h.p1 (hd 1), h.p2 (hd 2), h.p3 (hd 3), h.p4 (hd 4), h.p5 (hd 5), h.p6 (hd 6), h.p7 (hd 7), h.p8 (hd 8), h.p9 (hd 9), h.p10 (hd 10), h.p11 (hd 11), h.p12 (hd 12), h.p13 (hd 13), h.p14 (hd 14), e15, h.p16 (hd 16), trivial⟩
    simp only [List.foldl_cons, List.foldl_nil, List.setIfInBounds_toArray, List.set_cons_succ, List.set_cons_zero] at hfe
    have hbc := h.bel
    subst hfe
    clear h hdn hd hall
    go_wp2_with fail
    go_ret
    exact ⟨rfl, HBW.out.trans (hbc.mono HBW.out.size)⟩
structure TaR (T0 : Array Value) (W0 : World) (b1 b2 : Nat) (n1 n2 c : Int) (d : Array Bool) (t : Array Value) (wc : World) : Prop where
  bel : Below W0.heap.size W0 wc
  siz : t.size = 47
  kp : ∀ i, i ∉ ([7, 9, 10, 11, 12, 13, 14, 15, 16, 17] : List Nat) → t[i]? = T0[i]?
  k1 : t[1]? = some (.pointer (some ⟨b1, 0, none⟩))
  k2 : t[2]? = some (.pointer (some ⟨b2, 0, none⟩))
  p0 : dn d 0 → t[9]? = some (.pointer (some ⟨b1, 0, none⟩))
  p1 : dn d 1 → t[10]? = some (.pointer (some ⟨b1, 0, none⟩))
  p2 : dn d 2 → t[11]? = some (.pointer (some ⟨b1, 0, none⟩))
  p3 : dn d 3 → t[12]? = some (.int .i64 n1)
  p4 : dn d 4 → t[13]? = some (.pointer (some ⟨b2, 0, none⟩))
  p5 : dn d 5 → t[14]? = some (.pointer (some ⟨b2, 0, none⟩))
  p6 : dn d 6 → t[15]? = some (.pointer (some ⟨b2, 0, none⟩))
  p7 : dn d 7 → t[16]? = some (.int .i64 n2)
  p8 : dn d 8 → t[17]? = some (.int .i64 c)
  p9 : dn d 9 → t[7]? = some (.int .i64 c)
def TaI (T0 : Array Value) (W0 : World) (b1 b2 : Nat) (n1 n2 c : Int) (d : Array Bool) (a : Act) (wc : World) : Prop := ∃ t : Array Value, a = ⟨t, []⟩ ∧ TaR T0 W0 b1 b2 n1 n2 c d t wc
structure TbR (T0 : Array Value) (W0 : World) (b1 b2 : Nat) (f1 f2 : Lx.Form) (s1 s2 : Value) (c : Int) (d : Array Bool) (t : Array Value) (wc : World) : Prop where
  bel : Below W0.heap.size W0 wc
  siz : t.size = 47
  kp : ∀ i, i ∉ ([8, 27, 28, 29, 30, 31, 32, 33, 34, 35] : List Nat) → t[i]? = T0[i]?
  k1 : t[1]? = some (.pointer (some ⟨b1, 0, none⟩))
  k2 : t[2]? = some (.pointer (some ⟨b2, 0, none⟩))
  p0 : dn d 0 → t[27]? = some (.pointer (some ⟨b1, 0, none⟩))
  p1 : dn d 1 → t[28]? = some (.pointer (some ⟨b1, 0, none⟩))
  p2 : dn d 2 → t[29]? = some (.pointer (some ⟨b1, 1, none⟩))
  p3 : dn d 3 → t[30]? = some (.agg #[.int .i64 f1.entry, .int .i64 f1.ending, s1])
  p4 : dn d 4 → t[31]? = some (.pointer (some ⟨b2, 0, none⟩))
  p5 : dn d 5 → t[32]? = some (.pointer (some ⟨b2, 0, none⟩))
  p6 : dn d 6 → t[33]? = some (.pointer (some ⟨b2, 1, none⟩))
  p7 : dn d 7 → t[34]? = some (.agg #[.int .i64 f2.entry, .int .i64 f2.ending, s2])
  p8 : dn d 8 → t[35]? = some (.int .i64 c)
  p9 : dn d 9 → t[8]? = some (.int .i64 c)
def TbI (T0 : Array Value) (W0 : World) (b1 b2 : Nat) (f1 f2 : Lx.Form) (s1 s2 : Value) (c : Int) (d : Array Bool) (a : Act) (wc : World) : Prop := ∃ t : Array Value, a = ⟨t, []⟩ ∧ TbR T0 W0 b1 b2 f1 f2 s1 s2 c d t wc

theorem rdtl_cons {w : World} {S0 : Nat} {p : Option Addr} {a : Int × Lx.Form} {r : Lx.Tail} (h : RdTl w S0 p (a :: r)) : ∃ b S k q, p = some ⟨b, 0, none⟩ ∧ b < w.heap.size ∧ w.heap[b]? = some (.cells #[.int .i64 a.1, .int .i64 a.2.entry, .int .i64 a.2.ending, .slice S a.2.clitics.length k, .pointer q] 116 (0, 0)) ∧
    RdX w (fun b => b < S0) 1 encInt (.slice S a.2.clitics.length k) a.2.clitics ∧ RdTl w S0 q r := by
  cases h with
  | cons hb hs hr =>
    obtain ⟨S, k, rfl, -⟩ := id hs
    exact ⟨_, S, k, _, rfl, (Array.getElem?_eq_some_iff.1 hb).1, hb, hs, hr⟩
theorem rdtl_nil {w : World} {S0 : Nat} {p : Option Addr} (h : RdTl w S0 p []) : p = none := by cases h; rfl
theorem Lx.fsC_cons {a b : Int × Lx.Form} {r u : Lx.Tail} : Lx.fsC ((a :: r).map (·.2)) ((b :: u).map (·.2)) = if Lx.fC a.2 b.2 = 0 then Lx.fsC (r.map (·.2)) (u.map (·.2)) else Lx.fC a.2 b.2 := by
  simp only [List.map_cons, Lx.fsC]

set_option maxRecDepth 100000 in
set_option maxHeartbeats 8000000 in
theorem tcompare_any (a0 a1 a2 a3 a4 : Value) (S0 : Nat) (p q : Option Addr) (a b : Lx.Tail) (w : World) (hone : ∀ u ∈ [a0, a1, a2, a3, a4], u.oneCell' = true) (ha : RdTl w S0 p a) (hb : RdTl w S0 q b) (hS : S0 ≤ w.heap.size) (hna : a ≠ []) (hnb : b ≠ []) (hca : ∀ f ∈ a.map (·.2), f.clitics.length ≤ 1000) (hcb : ∀ f ∈ b.map (·.2), f.clitics.length ≤ 1000) :
    Calls Tryz.prog 63 #[.agg #[a0, a1, a2, a3, a4], .pointer p, .pointer q] w (RetIB (Lx.tC a b) w) := by
  obtain ⟨W1, hW1⟩ : ∃ W1, W1 = w.alloc (.cells #[a0, a1, a2, a3, a4] 83) := ⟨_, rfl⟩
  have hbw : Below w.heap.size w W1 := by rw [hW1]; exact (Below.refl _ _).alloc (Nat.le_refl _) _
  have HBW := Lib.hid hbw
  have HA := Lib.hid (ha.keep (.of_below hbw hS))
  have HB := Lib.hid (hb.keep (.of_below hbw hS))
  have HCA := Lib.hid hca
  have HCB := Lib.hid hcb
  have hSW : S0 ≤ W1.heap.size := Nat.le_trans hS hbw.size
  obtain ⟨x, r, hxr⟩ : ∃ x r, a = x :: r := by cases a with | nil => exact absurd rfl hna | cons x r => exact ⟨x, r, rfl⟩
  obtain ⟨y, u, hyu⟩ : ∃ y u, b = y :: u := by cases b with | nil => exact absurd rfl hnb | cons y u => exact ⟨y, u, rfl⟩
  have ha1 := HA.out
  have hb1 := HB.out
  rw [hxr] at ha1
  rw [hyu] at hb1
  obtain ⟨b1, S1, k1, q1, rfl, hl1, hc1, -, -⟩ := rdtl_cons ha1
  obtain ⟨b2, S2, k2, q2, rfl, hl2, hc2, -, -⟩ := rdtl_cons hb1
  obtain ⟨n1, hn1⟩ : ∃ n1, n1 = x.1 := ⟨_, rfl⟩
  obtain ⟨n2, hn2⟩ : ∃ n2, n2 = y.1 := ⟨_, rfl⟩
  rw [← hn1] at hc1
  rw [← hn2] at hc2
  have HTC : Hid (Lx.tC a b = if Lib.compareInt n1 n2 = 0 then Lx.fsC (a.map (·.2)) (b.map (·.2)) else Lib.compareInt n1 n2) := Lib.hid (by rw [hn1, hn2, hxr, hyu]; rfl)
  have CX : Hid (∀ W : World, Below W1.heap.size W1 W → W.cell? ⟨b1, 0, none⟩ = some (.int .i64 n1) ∧ W.cell? ⟨b1, 1, none⟩ = some (.int .i64 x.2.entry) ∧ W.cell? ⟨b1, 2, none⟩ = some (.int .i64 x.2.ending) ∧ W.cell? ⟨b1, 3, none⟩ = some (.slice S1 x.2.clitics.length k1) ∧ W.cell? ⟨b1, 4, none⟩ = some (.pointer q1) ∧ W.cell? ⟨b2, 0, none⟩ = some (.int .i64 n2) ∧ W.cell? ⟨b2, 1, none⟩ = some (.int .i64 y.2.entry) ∧ W.cell? ⟨b2, 2, none⟩ = some (.int .i64 y.2.ending) ∧ W.cell? ⟨b2, 3, none⟩ = some (.slice S2 y.2.clitics.length k2) ∧ W.cell? ⟨b2, 4, none⟩ = some (.pointer q2)) := Lib.hid fun W hW => by
    have p := (hW.block b1 hl1).trans hc1
    have q := (hW.block b2 hl2).trans hc2
    exact ⟨by simp [World.cell?, p], by simp [World.cell?, p], by simp [World.cell?, p], by simp [World.cell?, p], by simp [World.cell?, p], by simp [World.cell?, q], by simp [World.cell?, q], by simp [World.cell?, q], by simp [World.cell?, q], by simp [World.cell?, q]⟩
  have HW1 := Lib.hid hW1
  have hu0 := hone a0 (by simp)
  have hu1 := hone a1 (by simp)
  have hu2 := hone a2 (by simp)
  have hu3 := hone a3 (by simp)
  have hu4 := hone a4 (by simp)
  clear ha hb hbw hca hcb hxr hyu ha1 hb1 hc1 hc2 hW1 hn1 hn2 hna hnb hone hS
  go_enter Tryz.func63, Tryz.ntmps63
  go_wp2_with fail
  rw [← HW1.out]
  refine wp_region_inv2T (fun T0 => TaI T0 W1 b1 b2 n1 n2 (Lib.compareInt n1 n2)) (by kernel_rfl) (by kernel_rfl) ?g0a ?gstepa ?genda
  case g0a =>
    have hno : ∀ j, ¬ dn (Array.replicate 10 false) j := by
      intro j; unfold dn; by_cases hj : j < 10 <;> simp [Array.getD, hj]
    have na : ∀ {j : Nat} {Z : Prop}, dn (Array.replicate 10 false) j → Z := fun hj => absurd hj (hno _)
    exact ⟨_, rfl, { bel := (Below.refl _ _).drew, siz := rfl, kp := fun _ _ => rfl, k1 := rfl, k2 := rfl, p0 := na, p1 := na, p2 := na, p3 := na, p4 := na, p5 := na, p6 := na, p7 := na, p8 := na, p9 := na }⟩
  case gstepa =>
    intro T0 d a wc i hd hI hi
    obtain ⟨hlt, hnd, hpre⟩ := mem_ready hi
    have hd' : d.size = 10 := hd
    have hin : i < 10 := hlt
    clear hi hd hlt
    obtain ⟨t, rfl, h⟩ := hI
    have hcs : i = 0 ∨ i = 1 ∨ i = 2 ∨ i = 3 ∨ i = 4 ∨ i = 5 ∨ i = 6 ∨ i = 7 ∨ i = 8 ∨ i = 9 := by omega
    rcases hcs with rfl | rfl | rfl | rfl | rfl | rfl | rfl | rfl | rfl | rfl
    · have hi : 0 < d.size := by omega
      have q1 := h.k1
      refine wpOp_plain rfl rfl ?_
      go_simp
      exact ⟨_, rfl, { bel := h.bel, siz := (by simpa using h.siz), kp := rk h.kp, k1 := rs h.k1, k2 := rs h.k2, p0 := fun _ => set_same (by have := h.siz; omega), p1 := rp hi h.p1, p2 := rp hi h.p2, p3 := rp hi h.p3, p4 := rp hi h.p4, p5 := rp hi h.p5, p6 := rp hi h.p6, p7 := rp hi h.p7, p8 := rp hi h.p8, p9 := rp hi h.p9 }⟩
    · have hi : 1 < d.size := by omega
      have e0 := h.p0 (hpre _ rfl ⟨0, .data⟩ (by simp) rfl)
      refine wpOp_plain rfl rfl ?_
      go_simp
      exact ⟨_, rfl, { bel := h.bel, siz := (by simpa using h.siz), kp := rk h.kp, k1 := rs h.k1, k2 := rs h.k2, p0 := rp hi h.p0, p1 := fun _ => set_same (by have := h.siz; omega), p2 := rp hi h.p2, p3 := rp hi h.p3, p4 := rp hi h.p4, p5 := rp hi h.p5, p6 := rp hi h.p6, p7 := rp hi h.p7, p8 := rp hi h.p8, p9 := rp hi h.p9 }⟩
    · have hi : 2 < d.size := by omega
      have e1 := h.p1 (hpre _ rfl ⟨1, .data⟩ (by simp) rfl)
      refine wpOp_plain rfl rfl ?_
      go_simp
      exact ⟨_, rfl, { bel := h.bel, siz := (by simpa using h.siz), kp := rk h.kp, k1 := rs h.k1, k2 := rs h.k2, p0 := rp hi h.p0, p1 := rp hi h.p1, p2 := fun _ => set_same (by have := h.siz; omega), p3 := rp hi h.p3, p4 := rp hi h.p4, p5 := rp hi h.p5, p6 := rp hi h.p6, p7 := rp hi h.p7, p8 := rp hi h.p8, p9 := rp hi h.p9 }⟩
    · have hi : 3 < d.size := by omega
      have e2 := h.p2 (hpre _ rfl ⟨2, .data⟩ (by simp) rfl)
      obtain ⟨x0, x1, x2, x3, x4, x5, x6, x7, x8, x9⟩ := CX.out wc h.bel
      refine wpOp_plain rfl rfl ?_
      go_simp
      exact ⟨_, rfl, { bel := h.bel, siz := (by simpa using h.siz), kp := rk h.kp, k1 := rs h.k1, k2 := rs h.k2, p0 := rp hi h.p0, p1 := rp hi h.p1, p2 := rp hi h.p2, p3 := fun _ => set_same (by have := h.siz; omega), p4 := rp hi h.p4, p5 := rp hi h.p5, p6 := rp hi h.p6, p7 := rp hi h.p7, p8 := rp hi h.p8, p9 := rp hi h.p9 }⟩
    · have hi : 4 < d.size := by omega
      have q2 := h.k2
      refine wpOp_plain rfl rfl ?_
      go_simp
      exact ⟨_, rfl, { bel := h.bel, siz := (by simpa using h.siz), kp := rk h.kp, k1 := rs h.k1, k2 := rs h.k2, p0 := rp hi h.p0, p1 := rp hi h.p1, p2 := rp hi h.p2, p3 := rp hi h.p3, p4 := fun _ => set_same (by have := h.siz; omega), p5 := rp hi h.p5, p6 := rp hi h.p6, p7 := rp hi h.p7, p8 := rp hi h.p8, p9 := rp hi h.p9 }⟩
    · have hi : 5 < d.size := by omega
      have e4 := h.p4 (hpre _ rfl ⟨4, .data⟩ (by simp) rfl)
      refine wpOp_plain rfl rfl ?_
      go_simp
      exact ⟨_, rfl, { bel := h.bel, siz := (by simpa using h.siz), kp := rk h.kp, k1 := rs h.k1, k2 := rs h.k2, p0 := rp hi h.p0, p1 := rp hi h.p1, p2 := rp hi h.p2, p3 := rp hi h.p3, p4 := rp hi h.p4, p5 := fun _ => set_same (by have := h.siz; omega), p6 := rp hi h.p6, p7 := rp hi h.p7, p8 := rp hi h.p8, p9 := rp hi h.p9 }⟩
    · have hi : 6 < d.size := by omega
      have e5 := h.p5 (hpre _ rfl ⟨5, .data⟩ (by simp) rfl)
      refine wpOp_plain rfl rfl ?_
      go_simp
      exact ⟨_, rfl, { bel := h.bel, siz := (by simpa using h.siz), kp := rk h.kp, k1 := rs h.k1, k2 := rs h.k2, p0 := rp hi h.p0, p1 := rp hi h.p1, p2 := rp hi h.p2, p3 := rp hi h.p3, p4 := rp hi h.p4, p5 := rp hi h.p5, p6 := fun _ => set_same (by have := h.siz; omega), p7 := rp hi h.p7, p8 := rp hi h.p8, p9 := rp hi h.p9 }⟩
    · have hi : 7 < d.size := by omega
      have e6 := h.p6 (hpre _ rfl ⟨6, .data⟩ (by simp) rfl)
      obtain ⟨x0, x1, x2, x3, x4, x5, x6, x7, x8, x9⟩ := CX.out wc h.bel
      refine wpOp_plain rfl rfl ?_
      go_simp
      exact ⟨_, rfl, { bel := h.bel, siz := (by simpa using h.siz), kp := rk h.kp, k1 := rs h.k1, k2 := rs h.k2, p0 := rp hi h.p0, p1 := rp hi h.p1, p2 := rp hi h.p2, p3 := rp hi h.p3, p4 := rp hi h.p4, p5 := rp hi h.p5, p6 := rp hi h.p6, p7 := fun _ => set_same (by have := h.siz; omega), p8 := rp hi h.p8, p9 := rp hi h.p9 }⟩
    · have hi : 8 < d.size := by omega
      have e3 := h.p3 (hpre _ rfl ⟨3, .data⟩ (by simp) rfl)
      have e7 := h.p7 (hpre _ rfl ⟨7, .data⟩ (by simp) rfl)
      refine wpOp_plain rfl rfl ?_
      go_simp
      refine (Tryz.cmp_Compare_int n1 n2 wc).mono ?_
      rintro e1 w1 ⟨rfl, rfl⟩
      exact ⟨_, rfl, { bel := h.bel, siz := (by simpa using h.siz), kp := rk h.kp, k1 := rs h.k1, k2 := rs h.k2, p0 := rp hi h.p0, p1 := rp hi h.p1, p2 := rp hi h.p2, p3 := rp hi h.p3, p4 := rp hi h.p4, p5 := rp hi h.p5, p6 := rp hi h.p6, p7 := rp hi h.p7, p8 := fun _ => set_same (by have := h.siz; omega), p9 := rp hi h.p9 }⟩
    · have hi : 9 < d.size := by omega
      have e8 := h.p8 (hpre _ rfl ⟨8, .data⟩ (by simp) rfl)
      refine wpOp_plain rfl rfl ?_
      go_simp
      exact ⟨_, rfl, { bel := h.bel, siz := (by simpa using h.siz), kp := rk h.kp, k1 := rs h.k1, k2 := rs h.k2, p0 := rp hi h.p0, p1 := rp hi h.p1, p2 := rp hi h.p2, p3 := rp hi h.p3, p4 := rp hi h.p4, p5 := rp hi h.p5, p6 := rp hi h.p6, p7 := rp hi h.p7, p8 := rp hi h.p8, p9 := fun _ => set_same (by have := h.siz; omega) }⟩
  case genda =>
    intro d a wc hd hI hall
    obtain ⟨t, rfl, h⟩ := hI
    have hdn : ∀ j, j < 10 → dn d j := fun j hj => dn_all hd hall hj
    have hd : ∀ j, (_ : j < 10 := by decide) → dn d j := fun j hj => hdn j hj
    have hfe := frame_eq [(7, _), (9, _), (10, _), (11, _), (12, _), (13, _), (14, _), (15, _), (16, _), (17, _)] (h.siz.trans rfl) h.kp rfl ⟨h.p9 (hd 9), h.p0 (hd 0), h.p1 (hd 1), h.p2 (hd 2), h.p3 (hd 3), h.p4 (hd 4), h.p5 (hd 5), h.p6 (hd 6), h.p7 (hd 7), h.p8 (hd 8), trivial⟩
    simp only [List.foldl_cons, List.foldl_nil, List.setIfInBounds_toArray, List.set_cons_succ, List.set_cons_zero] at hfe
    have hbc := h.bel
    subst hfe
    clear h hdn hd hall
    have HBC := Lib.hid hbc
    have hsc := hbc.size
    clear hbc CX hl1 hl2
    generalize Lib.compareInt n1 n2 = c at *
    by_cases h0 : c = 0
    · have hq : (c == 0) = true := by simp [h0]
      have hq' : (c != 0) = false := by simp [h0]
      have HT : Hid (Lx.tC a b = Lx.fsC (a.map (·.2)) (b.map (·.2))) := Lib.hid (by rw [HTC.out, if_pos h0])
      clear h0 HTC
      go_wp2_with fail
      go_loopg [1, 2] a.length (fun g v1 v2 wr => ∃ (p q : Option Addr) (k : Nat), k ≤ a.length ∧ g = a.length - k ∧ v1 = .pointer p ∧ v2 = .pointer q ∧ Below W1.heap.size W1 wr ∧ RdTl wr S0 p (a.drop k) ∧ RdTl wr S0 q (b.drop k) ∧ Lx.fsC (a.map (·.2)) (b.map (·.2)) = Lx.fsC ((a.drop k).map (·.2)) ((b.drop k).map (·.2)))
      case atStart => exact ⟨_, _, 0, Nat.zero_le _, rfl, rfl, rfl, HBC.out, HA.out.keep (.of_below HBC.out hSW), HB.out.keep (.of_below HBC.out hSW), rfl⟩
      case round =>
        obtain ⟨p, q, k, hk, rfl, rfl, rfl, hbel, hra, hrb, heq⟩ := hrel
        have HBEL := Lib.hid hbel
        have HEQ := Lib.hid heq
        have hsr := hbel.size
        clear heq hbel
        cases hda : a.drop k with
        | nil =>
          rw [hda] at hra HEQ
          have hp := rdtl_nil hra
          subst hp
          have HF : Hid (Lx.tC a b = 0) := Lib.hid (by rw [HT.out, HEQ.out]; simp [Lx.fsC])
          clear hra hrb hda
          go_wp2_with fail
          go_ret
          exact ⟨ret_int HF.out.symm, HBW.out.trans (HBEL.out.mono HBW.out.size)⟩
        | cons e1 r1 =>
          rw [hda] at hra HEQ
          obtain ⟨b1, S1, k1, q1, rfl, hl1, hc1, hs1, hr1⟩ := rdtl_cons hra
          cases hdb : b.drop k with
          | nil =>
            rw [hdb] at hrb HEQ
            have hp := rdtl_nil hrb
            subst hp
            have HF : Hid (Lx.tC a b = 0) := Lib.hid (by rw [HT.out, HEQ.out]; simp [Lx.fsC])
            clear hra hrb hda hdb hc1 hs1 hr1
            go_wp2_with fail
            go_ret
            exact ⟨ret_int HF.out.symm, HBW.out.trans (HBEL.out.mono HBW.out.size)⟩
          | cons e2 r2 =>
            rw [hdb] at hrb HEQ
            obtain ⟨b2, S2, k2, q2, rfl, hl2, hc2, hs2, hr2⟩ := rdtl_cons hrb
            obtain ⟨n1, f1⟩ := e1
            obtain ⟨n2, f2⟩ := e2
            have hf1 : f1.clitics.length ≤ 1000 := HCA.out f1 (by have : (n1, f1) ∈ a.drop k := (by rw [hda]; simp); exact List.mem_map.2 ⟨_, List.mem_of_mem_drop this, rfl⟩)
            have hf2 : f2.clitics.length ≤ 1000 := HCB.out f2 (by have : (n2, f2) ∈ b.drop k := (by rw [hdb]; simp); exact List.mem_map.2 ⟨_, List.mem_of_mem_drop this, rfl⟩)
            have HDA : Hid (a.drop (k + 1) = r1 ∧ k + 1 ≤ a.length) := Lib.hid (by have h1 := congrArg List.length hda; rw [List.length_drop, List.length_cons] at h1; exact ⟨by rw [← List.drop_drop, hda]; rfl, by omega⟩)
            have HDB : Hid (b.drop (k + 1) = r2) := Lib.hid (by rw [← List.drop_drop, hdb]; rfl)
            have HFS : Hid (Lx.tC a b = if Lx.fC f1 f2 = 0 then Lx.fsC (r1.map (·.2)) (r2.map (·.2)) else Lx.fC f1 f2) := Lib.hid (by rw [HT.out, HEQ.out, Lx.fsC_cons])
            have HFE : Hid (Lx.fsC (a.map (·.2)) (b.map (·.2)) = if Lx.fC f1 f2 = 0 then Lx.fsC (r1.map (·.2)) (r2.map (·.2)) else Lx.fC f1 f2) := Lib.hid (by rw [HEQ.out, Lx.fsC_cons])
            have HR1 := Lib.hid hr1
            have HR2 := Lib.hid hr2
            have HCC : Hid (∀ W : World, Below wr.heap.size wr W → Calls Tryz.prog 89 #[.agg #[.int .i64 f1.entry, .int .i64 f1.ending, .slice S1 f1.clitics.length k1], .agg #[.int .i64 f2.entry, .int .i64 f2.ending, .slice S2 f2.clitics.length k2]] W (RetIB (Lx.fC f1 f2) W)) := Lib.hid fun W hW =>
              compare_any _ _ f1 f2 W ⟨⟨_, rfl, (hs1.keep (w' := W) (ok' := fun b => b < W.heap.size) (fun b hb => ⟨by have := hW.size; omega, hW.block b (by omega)⟩)).to (fun b hb => hb)⟩⟩ ⟨⟨_, rfl, (hs2.keep (w' := W) (ok' := fun b => b < W.heap.size) (fun b hb => ⟨by have := hW.size; omega, hW.block b (by omega)⟩)).to (fun b hb => hb)⟩⟩ hf1 hf2
            have CX : Hid (∀ W : World, Below wr.heap.size wr W → W.cell? ⟨b1, 0, none⟩ = some (.int .i64 n1) ∧ W.cell? ⟨b1, 1, none⟩ = some (.int .i64 f1.entry) ∧ W.cell? ⟨b1, 2, none⟩ = some (.int .i64 f1.ending) ∧ W.cell? ⟨b1, 3, none⟩ = some (.slice S1 f1.clitics.length k1) ∧ W.cell? ⟨b1, 4, none⟩ = some (.pointer q1) ∧ W.cell? ⟨b2, 0, none⟩ = some (.int .i64 n2) ∧ W.cell? ⟨b2, 1, none⟩ = some (.int .i64 f2.entry) ∧ W.cell? ⟨b2, 2, none⟩ = some (.int .i64 f2.ending) ∧ W.cell? ⟨b2, 3, none⟩ = some (.slice S2 f2.clitics.length k2) ∧ W.cell? ⟨b2, 4, none⟩ = some (.pointer q2)) := Lib.hid fun W hW => by
              have p := (hW.block b1 hl1).trans hc1
              have q := (hW.block b2 hl2).trans hc2
              exact ⟨by simp [World.cell?, p], by simp [World.cell?, p], by simp [World.cell?, p], by simp [World.cell?, p], by simp [World.cell?, p], by simp [World.cell?, q], by simp [World.cell?, q], by simp [World.cell?, q], by simp [World.cell?, q], by simp [World.cell?, q]⟩
            clear hra hrb hda hdb hc1 hc2 hs1 hs2 hr1 hr2 HEQ
            go_upto_region 5 with fail
            refine wp_region_inv2T (fun T0 => TbI T0 wr b1 b2 f1 f2 (.slice S1 f1.clitics.length k1) (.slice S2 f2.clitics.length k2) (Lx.fC f1 f2)) (by kernel_rfl) (by kernel_rfl) ?g0b ?gstepb ?gendb
            case g0b =>
              have hno : ∀ j, ¬ dn (Array.replicate 10 false) j := by
                intro j; unfold dn; by_cases hj : j < 10 <;> simp [Array.getD, hj]
              have na : ∀ {j : Nat} {Z : Prop}, dn (Array.replicate 10 false) j → Z := fun hj => absurd hj (hno _)
              exact ⟨_, rfl, { bel := (Below.refl _ _).drew, siz := rfl, kp := fun _ _ => rfl, k1 := rfl, k2 := rfl, p0 := na, p1 := na, p2 := na, p3 := na, p4 := na, p5 := na, p6 := na, p7 := na, p8 := na, p9 := na }⟩
            case gstepb =>
              intro T0 d a wc i hd hI hi
              obtain ⟨hlt, hnd, hpre⟩ := mem_ready hi
              have hd' : d.size = 10 := hd
              have hin : i < 10 := hlt
              clear hi hd hlt
              obtain ⟨t, rfl, h⟩ := hI
              have hcs : i = 0 ∨ i = 1 ∨ i = 2 ∨ i = 3 ∨ i = 4 ∨ i = 5 ∨ i = 6 ∨ i = 7 ∨ i = 8 ∨ i = 9 := by omega
              rcases hcs with rfl | rfl | rfl | rfl | rfl | rfl | rfl | rfl | rfl | rfl
              · have hi : 0 < d.size := by omega
                have q1 := h.k1
                refine wpOp_plain rfl rfl ?_
                go_simp
                exact ⟨_, rfl, { bel := h.bel, siz := (by simpa using h.siz), kp := rk h.kp, k1 := rs h.k1, k2 := rs h.k2, p0 := fun _ => set_same (by have := h.siz; omega), p1 := rp hi h.p1, p2 := rp hi h.p2, p3 := rp hi h.p3, p4 := rp hi h.p4, p5 := rp hi h.p5, p6 := rp hi h.p6, p7 := rp hi h.p7, p8 := rp hi h.p8, p9 := rp hi h.p9 }⟩
              · have hi : 1 < d.size := by omega
                have e0 := h.p0 (hpre _ rfl ⟨0, .data⟩ (by simp) rfl)
                refine wpOp_plain rfl rfl ?_
                go_simp
                exact ⟨_, rfl, { bel := h.bel, siz := (by simpa using h.siz), kp := rk h.kp, k1 := rs h.k1, k2 := rs h.k2, p0 := rp hi h.p0, p1 := fun _ => set_same (by have := h.siz; omega), p2 := rp hi h.p2, p3 := rp hi h.p3, p4 := rp hi h.p4, p5 := rp hi h.p5, p6 := rp hi h.p6, p7 := rp hi h.p7, p8 := rp hi h.p8, p9 := rp hi h.p9 }⟩
              · have hi : 2 < d.size := by omega
                have e1 := h.p1 (hpre _ rfl ⟨1, .data⟩ (by simp) rfl)
                refine wpOp_plain rfl rfl ?_
                go_simp
                exact ⟨_, rfl, { bel := h.bel, siz := (by simpa using h.siz), kp := rk h.kp, k1 := rs h.k1, k2 := rs h.k2, p0 := rp hi h.p0, p1 := rp hi h.p1, p2 := fun _ => set_same (by have := h.siz; omega), p3 := rp hi h.p3, p4 := rp hi h.p4, p5 := rp hi h.p5, p6 := rp hi h.p6, p7 := rp hi h.p7, p8 := rp hi h.p8, p9 := rp hi h.p9 }⟩
              · have hi : 3 < d.size := by omega
                have e2 := h.p2 (hpre _ rfl ⟨2, .data⟩ (by simp) rfl)
                obtain ⟨x0, x1, x2, x3, x4, x5, x6, x7, x8, x9⟩ := CX.out wc h.bel
                refine wpOp_plain rfl rfl ?_
                go_simp
                exact ⟨_, rfl, { bel := h.bel, siz := (by simpa using h.siz), kp := rk h.kp, k1 := rs h.k1, k2 := rs h.k2, p0 := rp hi h.p0, p1 := rp hi h.p1, p2 := rp hi h.p2, p3 := fun _ => set_same (by have := h.siz; omega), p4 := rp hi h.p4, p5 := rp hi h.p5, p6 := rp hi h.p6, p7 := rp hi h.p7, p8 := rp hi h.p8, p9 := rp hi h.p9 }⟩
              · have hi : 4 < d.size := by omega
                have q2 := h.k2
                refine wpOp_plain rfl rfl ?_
                go_simp
                exact ⟨_, rfl, { bel := h.bel, siz := (by simpa using h.siz), kp := rk h.kp, k1 := rs h.k1, k2 := rs h.k2, p0 := rp hi h.p0, p1 := rp hi h.p1, p2 := rp hi h.p2, p3 := rp hi h.p3, p4 := fun _ => set_same (by have := h.siz; omega), p5 := rp hi h.p5, p6 := rp hi h.p6, p7 := rp hi h.p7, p8 := rp hi h.p8, p9 := rp hi h.p9 }⟩
              · have hi : 5 < d.size := by omega
                have e4 := h.p4 (hpre _ rfl ⟨4, .data⟩ (by simp) rfl)
                refine wpOp_plain rfl rfl ?_
                go_simp
                exact ⟨_, rfl, { bel := h.bel, siz := (by simpa using h.siz), kp := rk h.kp, k1 := rs h.k1, k2 := rs h.k2, p0 := rp hi h.p0, p1 := rp hi h.p1, p2 := rp hi h.p2, p3 := rp hi h.p3, p4 := rp hi h.p4, p5 := fun _ => set_same (by have := h.siz; omega), p6 := rp hi h.p6, p7 := rp hi h.p7, p8 := rp hi h.p8, p9 := rp hi h.p9 }⟩
              · have hi : 6 < d.size := by omega
                have e5 := h.p5 (hpre _ rfl ⟨5, .data⟩ (by simp) rfl)
                refine wpOp_plain rfl rfl ?_
                go_simp
                exact ⟨_, rfl, { bel := h.bel, siz := (by simpa using h.siz), kp := rk h.kp, k1 := rs h.k1, k2 := rs h.k2, p0 := rp hi h.p0, p1 := rp hi h.p1, p2 := rp hi h.p2, p3 := rp hi h.p3, p4 := rp hi h.p4, p5 := rp hi h.p5, p6 := fun _ => set_same (by have := h.siz; omega), p7 := rp hi h.p7, p8 := rp hi h.p8, p9 := rp hi h.p9 }⟩
              · have hi : 7 < d.size := by omega
                have e6 := h.p6 (hpre _ rfl ⟨6, .data⟩ (by simp) rfl)
                obtain ⟨x0, x1, x2, x3, x4, x5, x6, x7, x8, x9⟩ := CX.out wc h.bel
                refine wpOp_plain rfl rfl ?_
                go_simp
                exact ⟨_, rfl, { bel := h.bel, siz := (by simpa using h.siz), kp := rk h.kp, k1 := rs h.k1, k2 := rs h.k2, p0 := rp hi h.p0, p1 := rp hi h.p1, p2 := rp hi h.p2, p3 := rp hi h.p3, p4 := rp hi h.p4, p5 := rp hi h.p5, p6 := rp hi h.p6, p7 := fun _ => set_same (by have := h.siz; omega), p8 := rp hi h.p8, p9 := rp hi h.p9 }⟩
              · have hi : 8 < d.size := by omega
                have e3 := h.p3 (hpre _ rfl ⟨3, .data⟩ (by simp) rfl)
                have e7 := h.p7 (hpre _ rfl ⟨7, .data⟩ (by simp) rfl)
                refine wpOp_plain rfl rfl ?_
                go_simp
                refine (HCC.out wc h.bel).mono ?_
                rintro e1 w1 ⟨rfl, hb⟩
                exact ⟨_, rfl, { bel := h.bel.trans (hb.mono h.bel.size), siz := (by simpa using h.siz), kp := rk h.kp, k1 := rs h.k1, k2 := rs h.k2, p0 := rp hi h.p0, p1 := rp hi h.p1, p2 := rp hi h.p2, p3 := rp hi h.p3, p4 := rp hi h.p4, p5 := rp hi h.p5, p6 := rp hi h.p6, p7 := rp hi h.p7, p8 := fun _ => set_same (by have := h.siz; omega), p9 := rp hi h.p9 }⟩
              · have hi : 9 < d.size := by omega
                have e8 := h.p8 (hpre _ rfl ⟨8, .data⟩ (by simp) rfl)
                refine wpOp_plain rfl rfl ?_
                go_simp
                exact ⟨_, rfl, { bel := h.bel, siz := (by simpa using h.siz), kp := rk h.kp, k1 := rs h.k1, k2 := rs h.k2, p0 := rp hi h.p0, p1 := rp hi h.p1, p2 := rp hi h.p2, p3 := rp hi h.p3, p4 := rp hi h.p4, p5 := rp hi h.p5, p6 := rp hi h.p6, p7 := rp hi h.p7, p8 := rp hi h.p8, p9 := fun _ => set_same (by have := h.siz; omega) }⟩
            case gendb =>
              intro d a wc hd hI hall
              obtain ⟨t, rfl, h⟩ := hI
              have hdn : ∀ j, j < 10 → dn d j := fun j hj => dn_all hd hall hj
              have hd : ∀ j, (_ : j < 10 := by decide) → dn d j := fun j hj => hdn j hj
              have hfe := frame_eq [(8, _), (27, _), (28, _), (29, _), (30, _), (31, _), (32, _), (33, _), (34, _), (35, _)] (h.siz.trans rfl) h.kp rfl ⟨h.p9 (hd 9), h.p0 (hd 0), h.p1 (hd 1), h.p2 (hd 2), h.p3 (hd 3), h.p4 (hd 4), h.p5 (hd 5), h.p6 (hd 6), h.p7 (hd 7), h.p8 (hd 8), trivial⟩
              simp only [List.foldl_cons, List.foldl_nil, List.setIfInBounds_toArray, List.set_cons_succ, List.set_cons_zero] at hfe
              have hbc := h.bel
              subst hfe
              clear h hdn hd hall
              obtain ⟨x0, x1, x2, x3, x4, x5, x6, x7, x8, x9⟩ := CX.out wc hbc
              have HBC2 := Lib.hid hbc
              have hsc2 := hbc.size
              clear hbc CX HCC
              generalize Lx.fC f1 f2 = c2 at *
              by_cases h0 : c2 = 0
              · have hq2 : (c2 == 0) = true := by simp [h0]
                have hq2' : (c2 != 0) = false := by simp [h0]
                have HN : Hid (Lx.fsC (a.map (·.2)) (b.map (·.2)) = Lx.fsC ((a.drop (k + 1)).map (·.2)) ((b.drop (k + 1)).map (·.2))) := Lib.hid (by rw [HFE.out, if_pos h0, HDA.out.1, HDB.out])
                clear h0
                have HBE := Lib.hid (HBEL.out.trans (HBC2.out.mono hsr))
                have HRA : Hid (RdTl wc S0 q1 (a.drop (k + 1))) := Lib.hid (by rw [HDA.out.1]; exact HR1.out.keep (.of_below HBC2.out (by omega)))
                have HRB : Hid (RdTl wc S0 q2 (b.drop (k + 1))) := Lib.hid (by rw [HDB.out]; exact HR2.out.keep (.of_below HBC2.out (by omega)))
                go_upto_region 8 with fail
                go_quiet (fail)
                all_goals go_wp2_with fail
                all_goals
                  go_roundg (a.length - (k + 1))
                  case measure => have := HDA.out.2; omega
                  case rel => exact ⟨q1, q2, k + 1, HDA.out.2, rfl, rfl, rfl, below_drewN HBE.out _, HRA.out.keep (.of_below (below_drewN (Below.refl _ _) _) (by omega)), HRB.out.keep (.of_below (below_drewN (Below.refl _ _) _) (by omega)), HN.out⟩
              · have hq2 : (c2 == 0) = false := by simp [h0]
                have hq2' : (c2 != 0) = true := by simp [h0]
                have HN : Hid (Lx.tC a b = c2) := Lib.hid (by rw [HFS.out, if_neg h0])
                clear h0
                go_wp2_with fail
                go_ret
                exact ⟨ret_int HN.out.symm, HBW.out.trans ((HBEL.out.trans (HBC2.out.mono hsr)).mono HBW.out.size)⟩
    · have hq : (c == 0) = false := by simp [h0]
      have hq' : (c != 0) = true := by simp [h0]
      have HT : Hid (Lx.tC a b = c) := Lib.hid (by rw [HTC.out, if_neg h0])
      clear h0 HTC
      go_wp2_with fail
      go_ret
      exact ⟨ret_int HT.out.symm, HBW.out.trans (HBC.out.mono HBW.out.size)⟩
end Go.Proofs.YtpmnpnlfgfleeaaGreatDoor
