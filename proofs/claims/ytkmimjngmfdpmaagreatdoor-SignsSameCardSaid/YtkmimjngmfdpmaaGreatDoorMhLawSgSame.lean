/- SignsSame: the law's walk. Made by gen_sglaw7.py. -/
import Derived.Test.YtkmimjngmfdpmaaGreatDoorMhSgGSame
import Derived.Test.YtkmimjngmfdpmaaGreatDoorMgShelfF
import Derived.Test.YtkmimjngmfdpmaaGreatDoorMgSgWorks
namespace Go.Proofs.YtkmimjngmfdpmaaGreatDoor
open Go Go.RowKit
theorem ret_bb {p : Prop} {sb : Bool} {w w' : World} {e : Ending} (hs : sb = true ↔ p) (h : RetEq p w e w') : RetBB sb w e w' := by
  obtain ⟨q, rfl, hq, hb⟩ := h
  have : q = sb := by rw [Bool.eq_iff_iff]; exact hq.trans hs.symm
  subst this
  exact ⟨rfl, hb⟩
structure LssR (T0 : Array Value) (W0 : World) (a' b' : Sg.SList) (A0 A1 : Option Addr) (c0 c1 : Nat) (xb yb : Nat) (sb : Bool) (d : Array Bool) (t : Array Value) (wc : World) : Prop where
  bel : Below W0.heap.size W0 wc
  siz : t.size = 31
  kp : ∀ i, i ∉ ([4, 12, 13, 14, 15, 16, 17, 18, 19, 20, 21, 22, 23, 24, 25, 26, 27, 28, 29, 30] : List Nat) → t[i]? = T0[i]?
  k2 : t[2]? = some (.pointer (some ⟨xb, 0, none⟩))
  k3 : t[3]? = some (.pointer (some ⟨yb, 0, none⟩))
  p0 : dn d 0 → t[12]? = some (.agg #[.int .i64 a'.periods, .slice A0 a'.signs.length c0])
  p1 : dn d 1 → ∃ v, t[13]? = some v ∧ RdSL wc wc.heap.size v a'
  p2 : dn d 2 → t[14]? = some (.agg #[.int .i64 b'.periods, .slice A1 b'.signs.length c1])
  p3 : dn d 3 → ∃ v, t[15]? = some v ∧ RdSL wc wc.heap.size v b'
  p4 : dn d 4 → t[16]? = some (.bool sb)
  p5 : dn d 5 → t[17]? = some (.agg #[.int .i64 a'.periods, .slice A0 a'.signs.length c0])
  p6 : dn d 6 → t[18]? = some (.agg #[.int .i64 b'.periods, .slice A1 b'.signs.length c1])
  p7 : dn d 7 → t[19]? = some (.bool sb)
  p8 : dn d 8 → t[20]? = some (.bool true)
  p9 : dn d 9 → t[21]? = some (.bool true)
  p10 : dn d 10 → t[22]? = some (.agg #[.int .i64 a'.periods, .slice A0 a'.signs.length c0])
  p11 : dn d 11 → ∃ v, t[23]? = some v ∧ RdSL wc wc.heap.size v a'
  p12 : dn d 12 → t[24]? = some (.agg #[.int .i64 a'.periods, .slice A0 a'.signs.length c0])
  p13 : dn d 13 → ∃ v, t[25]? = some v ∧ RdSL wc wc.heap.size v a'
  p14 : dn d 14 → t[26]? = some (.bool true)
  p15 : dn d 15 → t[27]? = some (.bool true)
  p16 : dn d 16 → t[28]? = some (.bool true)
  p17 : dn d 17 → t[29]? = some (.bool true)
  p18 : dn d 18 → t[30]? = some (.bool true)
  p19 : dn d 19 → t[4]? = some (.bool true)
def LssI (T0 : Array Value) (W0 : World) (a' b' : Sg.SList) (A0 A1 : Option Addr) (c0 c1 : Nat) (xb yb : Nat) (sb : Bool) (d : Array Bool) (a : Act) (wc : World) : Prop := ∃ t : Array Value, a = ⟨t, []⟩ ∧ LssR T0 W0 a' b' A0 A1 c0 c1 xb yb sb d t wc
set_option maxRecDepth 100000 in
set_option maxHeartbeats 8000000 in
theorem SignsSame_any (v v' : Value) (a b : Sg.SList) (w : World) (hr : RdSL w w.heap.size v a) (hr' : RdSL w w.heap.size v' b) (hg : Glob w) (ht : GTab w) : Calls Tryz.prog 7 #[v, v'] w (RetBB true w) := by
  have HRA := Lib.hid fun (W : World) (hW : Below w.heap.size w W) => hr.on hW
  have HRB := Lib.hid fun (W : World) (hW : Below w.heap.size w W) => hr'.on hW
  have HWK := Lib.hid fun (W : World) (hW : Below w.heap.size w W) => works1_any W (hg.below hW) (ht.below hW)
  obtain ⟨⟨u, rfl, hgl⟩, hf⟩ := hr
  obtain ⟨⟨u', rfl, hgl'⟩, hf'⟩ := hr'
  obtain ⟨A0, c0, rfl⟩ := hgl.form
  obtain ⟨A1, c1, rfl⟩ := hgl'.form
  obtain ⟨W1, hW1⟩ : ∃ W1, W1 = (w.alloc (.cells #[.int .i64 a.periods, .slice A0 a.signs.length c0] 24)).alloc (.cells #[.int .i64 b.periods, .slice A1 b.signs.length c1] 24) := ⟨_, rfl⟩
  have hb1 : Below w.heap.size w W1 := by rw [hW1]; exact ((Below.refl _ _).alloc (Nat.le_refl _) _).alloc (by simp) _
  have hX : W1.heap[w.heap.size]? = some (.cells #[.int .i64 a.periods, .slice A0 a.signs.length c0] 24 (0, 0)) := by rw [hW1]; exact start_fst w _ _
  have hY : W1.heap[w.heap.size + 1]? = some (.cells #[.int .i64 b.periods, .slice A1 b.signs.length c1] 24 (0, 0)) := by rw [hW1]; exact start_res' w _ _
  have hs1 : w.heap.size + 1 < W1.heap.size := (Array.getElem?_eq_some_iff.1 hY).1
  have CX : Hid (∀ W, Below W1.heap.size W1 W → W.cell? ⟨w.heap.size, 0, none⟩ = some (.int .i64 a.periods) ∧ W.cell? ⟨w.heap.size, 1, none⟩ = some (.slice A0 a.signs.length c0) ∧ W.cell? ⟨w.heap.size + 1, 0, none⟩ = some (.int .i64 b.periods) ∧ W.cell? ⟨w.heap.size + 1, 1, none⟩ = some (.slice A1 b.signs.length c1)) := Lib.hid fun W hW => by
    have p := (hW.block _ (by omega)).trans hX
    have p' := (hW.block _ hs1).trans hY
    exact ⟨by simp [World.cell?, p], by simp [World.cell?, p], by simp [World.cell?, p'], by simp [World.cell?, p']⟩
  obtain ⟨x0, x1, x2, x3⟩ := CX.out W1 (Below.refl _ _)
  have HB1 := Lib.hid hb1
  have HW1 := Lib.hid hW1
  have HBG := Lib.hid (l1Big_any _ a W1 (HRA.out W1 hb1))
  have HBG2 := Lib.hid fun (W : World) (hW : Below w.heap.size w W) => l1Big_any _ b W (HRB.out W hW)
  clear hgl hf hgl' hf' hW1 hb1 hX hY hg ht
  cases hbig : Sg.bigV a
  case true =>
    rw [hbig] at HBG
    clear hbig
    go_enter Tryz.func7, Tryz.ntmps7
    go_upto_region 1 with fail
    rw [← HW1.out]
    go_wp2_with fail
    refine HBG.out.mono ?_
    rintro e w2 ⟨rfl, hb2⟩
    have HB2 := Lib.hid (HB1.out.trans (hb2.mono (by omega)))
    clear hb2
    go_wp2_with fail
    refine (HWK.out _ HB2.out).mono ?_
    rintro e w3 ⟨rfl, hb3⟩
    have HB3 := Lib.hid (HB2.out.trans (hb3.mono HB2.out.size))
    clear hb3
    go_wp2_with fail
    go_ret
    exact ⟨rfl, HB3.out⟩
  rw [hbig] at HBG
  have HSA := Lib.hid (Sg.big_small hbig).1
  clear hbig
  cases hbig : Sg.bigV b
  case true =>
    rw [hbig] at HBG2
    clear hbig
    go_enter Tryz.func7, Tryz.ntmps7
    go_upto_region 1 with fail
    rw [← HW1.out]
    go_wp2_with fail
    refine HBG.out.mono ?_
    rintro e w2 ⟨rfl, hb2⟩
    have HB2 := Lib.hid (HB1.out.trans (hb2.mono (by omega)))
    clear x0 x1 x2 x3
    obtain ⟨x0, x1, x2, x3⟩ := CX.out w2 hb2
    clear hb2
    go_wp2_with fail
    refine (HBG2.out w2 HB2.out).mono ?_
    rintro e w3 ⟨rfl, hb3⟩
    have HB3 := Lib.hid (HB2.out.trans (hb3.mono HB2.out.size))
    clear hb3
    go_wp2_with fail
    refine (HWK.out _ HB3.out).mono ?_
    rintro e w4 ⟨rfl, hb4⟩
    have HB4 := Lib.hid (HB3.out.trans (hb4.mono HB3.out.size))
    clear hb4
    go_wp2_with fail
    go_ret
    exact ⟨rfl, HB4.out⟩
  rw [hbig] at HBG2
  have HSB := Lib.hid (Sg.big_small hbig).1
  clear hbig
  go_enter Tryz.func7, Tryz.ntmps7
  go_upto_region 1 with fail
  rw [← HW1.out]
  go_wp2_with fail
  refine HBG.out.mono ?_
  rintro e w1 ⟨rfl, hb⟩
  have HBa := Lib.hid (HB1.out.trans (hb.mono (by omega)))
  have H1a := Lib.hid hb
  clear x0 x1 x2 x3
  obtain ⟨x0, x1, x2, x3⟩ := CX.out w1 hb
  clear hb
  go_wp2_with fail
  refine (HBG2.out w1 HBa.out).mono ?_
  rintro e w2 ⟨rfl, hb2⟩
  have HB2 := Lib.hid (HBa.out.trans (hb2.mono HBa.out.size))
  have H12 := Lib.hid (H1a.out.trans (hb2.mono H1a.out.size))
  have hs2 := H12.out.size
  clear hb2 x0 x1 x2 x3
  obtain ⟨x0, x1, x2, x3⟩ := CX.out w2 H12.out
  obtain ⟨sb, hsb⟩ : ∃ sb : Bool, (sb = true ↔ (a.periods = b.periods ∧ a.signs = b.signs)) := by
    by_cases h : a.periods = b.periods ∧ a.signs = b.signs
    · exact ⟨true, by simp [h]⟩
    · exact ⟨false, by simp [h]⟩
  have HBX := Lib.hid fun (W : World) (hW : Below w2.heap.size w2 W) => HB2.out.trans (hW.mono HB2.out.size)
  have HS1 := Lib.hid fun (W : World) (_ : Below w2.heap.size w2 W) (y y' : Value) (hy : RdSL W W.heap.size y a) (hy' : RdSL W W.heap.size y' b) => (gSame_any y y' a b W hy hy').mono fun _ _ => ret_bb hsb
  have HS2 := Lib.hid fun (W : World) (hW : Below w2.heap.size w2 W) => (r1Same_any _ _ a b W (HRA.out W (HBX.out W hW)) (HRB.out W (HBX.out W hW))).mono fun _ _ => ret_bb hsb
  have HS3 : Hid (∀ W, Below w2.heap.size w2 W → ∀ y y', RdSL W W.heap.size y a → RdSL W W.heap.size y' a → Calls Tryz.prog 31 #[y, y'] W (RetBB true W)) := Lib.hid fun W _ y y' hy hy' => (gSame_any y y' a a W hy hy').mono fun _ _ h => ret_bb ⟨fun _ => ⟨rfl, rfl⟩, fun _ => rfl⟩ h
  have HCPA := Lib.hid fun (W : World) (hW : Below w2.heap.size w2 W) => r1Copy_any _ a W (HRA.out W (HBX.out W hW)) HSA.out
  have HCPB := Lib.hid fun (W : World) (hW : Below w2.heap.size w2 W) => r1Copy_any _ b W (HRB.out W (HBX.out W hW)) HSB.out
  have HWK2 := Lib.hid fun (W : World) (hW : Below w2.heap.size w2 W) => HWK.out W (HBX.out W hW)
  clear hsb
  obtain ⟨yb, hyb⟩ : ∃ yb, yb = w.heap.size + 1 := ⟨_, rfl⟩
  have HYB := Lib.hid hyb
  have CL := Lib.hid fun (W : World) (hW : Below w2.heap.size w2 W) => CX.out W (H12.out.trans (hW.mono hs2))
  rw [← hyb] at CL
  clear hyb
  go_upto_region 3 with fail
  rw [← HYB.out]
  refine wp_region_inv2T (fun T0 => LssI T0 w2 a b A0 A1 c0 c1 w.heap.size yb sb) (by kernel_rfl) (by kernel_rfl) ?g0a ?gstepa ?genda
  case g0a =>
    have hno : ∀ j, ¬ dn (Array.replicate 20 false) j := by
      intro j; unfold dn; by_cases hj : j < 20 <;> simp [Array.getD, hj]
    have na : ∀ {j : Nat} {Z : Prop}, dn (Array.replicate 20 false) j → Z := fun hj => absurd hj (hno _)
    exact ⟨_, rfl, { bel := (Below.refl _ _).drew, siz := rfl, kp := fun _ _ => rfl, k2 := rfl, k3 := rfl, p0 := na, p1 := fun hj => absurd hj (hno _), p2 := na, p3 := fun hj => absurd hj (hno _), p4 := na, p5 := na, p6 := na, p7 := na, p8 := na, p9 := na, p10 := na, p11 := fun hj => absurd hj (hno _), p12 := na, p13 := fun hj => absurd hj (hno _), p14 := na, p15 := na, p16 := na, p17 := na, p18 := na, p19 := na }⟩
  case gstepa =>
    intro T0 d a wc i hd hI hi
    obtain ⟨hlt, hnd, hpre⟩ := mem_ready hi
    have hd' : d.size = 20 := hd
    have hin : i < 20 := hlt
    clear hi hd hlt
    obtain ⟨t, rfl, h⟩ := hI
    have hcs : i = 0 ∨ i = 1 ∨ i = 2 ∨ i = 3 ∨ i = 4 ∨ i = 5 ∨ i = 6 ∨ i = 7 ∨ i = 8 ∨ i = 9 ∨ i = 10 ∨ i = 11 ∨ i = 12 ∨ i = 13 ∨ i = 14 ∨ i = 15 ∨ i = 16 ∨ i = 17 ∨ i = 18 ∨ i = 19 := by omega
    rcases hcs with rfl | rfl | rfl | rfl | rfl | rfl | rfl | rfl | rfl | rfl | rfl | rfl | rfl | rfl | rfl | rfl | rfl | rfl | rfl | rfl
    · have hi : 0 < d.size := by omega
      have q2 := h.k2
      obtain ⟨m0, m1, m2, m3⟩ := CL.out wc h.bel
      refine wpOp_plain rfl rfl ?_
      go_simp
      exact ⟨_, rfl, { bel := h.bel, siz := (by simpa using h.siz), kp := rk h.kp, k2 := rs h.k2, k3 := rs h.k3, p0 := fun _ => set_same (by have := h.siz; omega), p1 := rc hi h.p1 (fun v h2 => h2.on (Below.refl _ _)), p2 := rp hi h.p2, p3 := rc hi h.p3 (fun v h2 => h2.on (Below.refl _ _)), p4 := rp hi h.p4, p5 := rp hi h.p5, p6 := rp hi h.p6, p7 := rp hi h.p7, p8 := rp hi h.p8, p9 := rp hi h.p9, p10 := rp hi h.p10, p11 := rc hi h.p11 (fun v h2 => h2.on (Below.refl _ _)), p12 := rp hi h.p12, p13 := rc hi h.p13 (fun v h2 => h2.on (Below.refl _ _)), p14 := rp hi h.p14, p15 := rp hi h.p15, p16 := rp hi h.p16, p17 := rp hi h.p17, p18 := rp hi h.p18, p19 := rp hi h.p19 }⟩
    · have hi : 1 < d.size := by omega
      have e0 := h.p0 (hpre _ rfl ⟨0, .data⟩ (by simp) rfl)
      refine wpOp_plain rfl rfl ?_
      go_simp
      refine (HCPA.out wc h.bel).mono ?_
      rintro e1 w1 ⟨y1, rfl, hq1, hb⟩
      exact ⟨_, rfl, { bel := h.bel.trans (hb.mono h.bel.size), siz := (by simpa using h.siz), kp := rk h.kp, k2 := rs h.k2, k3 := rs h.k3, p0 := rp hi h.p0, p1 := fun _ => ⟨_, set_same (by have := h.siz; omega), hq1⟩, p2 := rp hi h.p2, p3 := rc hi h.p3 (fun v h2 => h2.on hb), p4 := rp hi h.p4, p5 := rp hi h.p5, p6 := rp hi h.p6, p7 := rp hi h.p7, p8 := rp hi h.p8, p9 := rp hi h.p9, p10 := rp hi h.p10, p11 := rc hi h.p11 (fun v h2 => h2.on hb), p12 := rp hi h.p12, p13 := rc hi h.p13 (fun v h2 => h2.on hb), p14 := rp hi h.p14, p15 := rp hi h.p15, p16 := rp hi h.p16, p17 := rp hi h.p17, p18 := rp hi h.p18, p19 := rp hi h.p19 }⟩
    · have hi : 2 < d.size := by omega
      have q3 := h.k3
      obtain ⟨m0, m1, m2, m3⟩ := CL.out wc h.bel
      refine wpOp_plain rfl rfl ?_
      go_simp
      exact ⟨_, rfl, { bel := h.bel, siz := (by simpa using h.siz), kp := rk h.kp, k2 := rs h.k2, k3 := rs h.k3, p0 := rp hi h.p0, p1 := rc hi h.p1 (fun v h2 => h2.on (Below.refl _ _)), p2 := fun _ => set_same (by have := h.siz; omega), p3 := rc hi h.p3 (fun v h2 => h2.on (Below.refl _ _)), p4 := rp hi h.p4, p5 := rp hi h.p5, p6 := rp hi h.p6, p7 := rp hi h.p7, p8 := rp hi h.p8, p9 := rp hi h.p9, p10 := rp hi h.p10, p11 := rc hi h.p11 (fun v h2 => h2.on (Below.refl _ _)), p12 := rp hi h.p12, p13 := rc hi h.p13 (fun v h2 => h2.on (Below.refl _ _)), p14 := rp hi h.p14, p15 := rp hi h.p15, p16 := rp hi h.p16, p17 := rp hi h.p17, p18 := rp hi h.p18, p19 := rp hi h.p19 }⟩
    · have hi : 3 < d.size := by omega
      have e2 := h.p2 (hpre _ rfl ⟨2, .data⟩ (by simp) rfl)
      refine wpOp_plain rfl rfl ?_
      go_simp
      refine (HCPB.out wc h.bel).mono ?_
      rintro e1 w1 ⟨y1, rfl, hq1, hb⟩
      exact ⟨_, rfl, { bel := h.bel.trans (hb.mono h.bel.size), siz := (by simpa using h.siz), kp := rk h.kp, k2 := rs h.k2, k3 := rs h.k3, p0 := rp hi h.p0, p1 := rc hi h.p1 (fun v h2 => h2.on hb), p2 := rp hi h.p2, p3 := fun _ => ⟨_, set_same (by have := h.siz; omega), hq1⟩, p4 := rp hi h.p4, p5 := rp hi h.p5, p6 := rp hi h.p6, p7 := rp hi h.p7, p8 := rp hi h.p8, p9 := rp hi h.p9, p10 := rp hi h.p10, p11 := rc hi h.p11 (fun v h2 => h2.on hb), p12 := rp hi h.p12, p13 := rc hi h.p13 (fun v h2 => h2.on hb), p14 := rp hi h.p14, p15 := rp hi h.p15, p16 := rp hi h.p16, p17 := rp hi h.p17, p18 := rp hi h.p18, p19 := rp hi h.p19 }⟩
    · have hi : 4 < d.size := by omega
      obtain ⟨v1, e1, r1⟩ := h.p1 (hpre _ rfl ⟨1, .data⟩ (by simp) rfl)
      obtain ⟨v3, e3, r3⟩ := h.p3 (hpre _ rfl ⟨3, .data⟩ (by simp) rfl)
      refine wpOp_plain rfl rfl ?_
      go_simp
      refine (HS1.out wc h.bel v1 v3 r1 r3).mono ?_
      rintro e1 w1 ⟨rfl, hb⟩
      exact ⟨_, rfl, { bel := h.bel.trans (hb.mono h.bel.size), siz := (by simpa using h.siz), kp := rk h.kp, k2 := rs h.k2, k3 := rs h.k3, p0 := rp hi h.p0, p1 := rc hi h.p1 (fun v h2 => h2.on hb), p2 := rp hi h.p2, p3 := rc hi h.p3 (fun v h2 => h2.on hb), p4 := fun _ => set_same (by have := h.siz; omega), p5 := rp hi h.p5, p6 := rp hi h.p6, p7 := rp hi h.p7, p8 := rp hi h.p8, p9 := rp hi h.p9, p10 := rp hi h.p10, p11 := rc hi h.p11 (fun v h2 => h2.on hb), p12 := rp hi h.p12, p13 := rc hi h.p13 (fun v h2 => h2.on hb), p14 := rp hi h.p14, p15 := rp hi h.p15, p16 := rp hi h.p16, p17 := rp hi h.p17, p18 := rp hi h.p18, p19 := rp hi h.p19 }⟩
    · have hi : 5 < d.size := by omega
      have q2 := h.k2
      obtain ⟨m0, m1, m2, m3⟩ := CL.out wc h.bel
      refine wpOp_plain rfl rfl ?_
      go_simp
      exact ⟨_, rfl, { bel := h.bel, siz := (by simpa using h.siz), kp := rk h.kp, k2 := rs h.k2, k3 := rs h.k3, p0 := rp hi h.p0, p1 := rc hi h.p1 (fun v h2 => h2.on (Below.refl _ _)), p2 := rp hi h.p2, p3 := rc hi h.p3 (fun v h2 => h2.on (Below.refl _ _)), p4 := rp hi h.p4, p5 := fun _ => set_same (by have := h.siz; omega), p6 := rp hi h.p6, p7 := rp hi h.p7, p8 := rp hi h.p8, p9 := rp hi h.p9, p10 := rp hi h.p10, p11 := rc hi h.p11 (fun v h2 => h2.on (Below.refl _ _)), p12 := rp hi h.p12, p13 := rc hi h.p13 (fun v h2 => h2.on (Below.refl _ _)), p14 := rp hi h.p14, p15 := rp hi h.p15, p16 := rp hi h.p16, p17 := rp hi h.p17, p18 := rp hi h.p18, p19 := rp hi h.p19 }⟩
    · have hi : 6 < d.size := by omega
      have q3 := h.k3
      obtain ⟨m0, m1, m2, m3⟩ := CL.out wc h.bel
      refine wpOp_plain rfl rfl ?_
      go_simp
      exact ⟨_, rfl, { bel := h.bel, siz := (by simpa using h.siz), kp := rk h.kp, k2 := rs h.k2, k3 := rs h.k3, p0 := rp hi h.p0, p1 := rc hi h.p1 (fun v h2 => h2.on (Below.refl _ _)), p2 := rp hi h.p2, p3 := rc hi h.p3 (fun v h2 => h2.on (Below.refl _ _)), p4 := rp hi h.p4, p5 := rp hi h.p5, p6 := fun _ => set_same (by have := h.siz; omega), p7 := rp hi h.p7, p8 := rp hi h.p8, p9 := rp hi h.p9, p10 := rp hi h.p10, p11 := rc hi h.p11 (fun v h2 => h2.on (Below.refl _ _)), p12 := rp hi h.p12, p13 := rc hi h.p13 (fun v h2 => h2.on (Below.refl _ _)), p14 := rp hi h.p14, p15 := rp hi h.p15, p16 := rp hi h.p16, p17 := rp hi h.p17, p18 := rp hi h.p18, p19 := rp hi h.p19 }⟩
    · have hi : 7 < d.size := by omega
      have e5 := h.p5 (hpre _ rfl ⟨5, .data⟩ (by simp) rfl)
      have e6 := h.p6 (hpre _ rfl ⟨6, .data⟩ (by simp) rfl)
      refine wpOp_plain rfl rfl ?_
      go_simp
      refine (HS2.out wc h.bel).mono ?_
      rintro e1 w1 ⟨rfl, hb⟩
      exact ⟨_, rfl, { bel := h.bel.trans (hb.mono h.bel.size), siz := (by simpa using h.siz), kp := rk h.kp, k2 := rs h.k2, k3 := rs h.k3, p0 := rp hi h.p0, p1 := rc hi h.p1 (fun v h2 => h2.on hb), p2 := rp hi h.p2, p3 := rc hi h.p3 (fun v h2 => h2.on hb), p4 := rp hi h.p4, p5 := rp hi h.p5, p6 := rp hi h.p6, p7 := fun _ => set_same (by have := h.siz; omega), p8 := rp hi h.p8, p9 := rp hi h.p9, p10 := rp hi h.p10, p11 := rc hi h.p11 (fun v h2 => h2.on hb), p12 := rp hi h.p12, p13 := rc hi h.p13 (fun v h2 => h2.on hb), p14 := rp hi h.p14, p15 := rp hi h.p15, p16 := rp hi h.p16, p17 := rp hi h.p17, p18 := rp hi h.p18, p19 := rp hi h.p19 }⟩
    · have hi : 8 < d.size := by omega
      have e4 := h.p4 (hpre _ rfl ⟨4, .data⟩ (by simp) rfl)
      have e7 := h.p7 (hpre _ rfl ⟨7, .data⟩ (by simp) rfl)
      refine wpOp_plain rfl rfl ?_
      go_simp
      exact ⟨_, rfl, { bel := h.bel, siz := (by simpa using h.siz), kp := rk h.kp, k2 := rs h.k2, k3 := rs h.k3, p0 := rp hi h.p0, p1 := rc hi h.p1 (fun v h2 => h2.on (Below.refl _ _)), p2 := rp hi h.p2, p3 := rc hi h.p3 (fun v h2 => h2.on (Below.refl _ _)), p4 := rp hi h.p4, p5 := rp hi h.p5, p6 := rp hi h.p6, p7 := rp hi h.p7, p8 := fun _ => set_same (by have := h.siz; omega), p9 := rp hi h.p9, p10 := rp hi h.p10, p11 := rc hi h.p11 (fun v h2 => h2.on (Below.refl _ _)), p12 := rp hi h.p12, p13 := rc hi h.p13 (fun v h2 => h2.on (Below.refl _ _)), p14 := rp hi h.p14, p15 := rp hi h.p15, p16 := rp hi h.p16, p17 := rp hi h.p17, p18 := rp hi h.p18, p19 := rp hi h.p19 }⟩
    · have hi : 9 < d.size := by omega
      have e8 := h.p8 (hpre _ rfl ⟨8, .data⟩ (by simp) rfl)
      refine wpOp_plain rfl rfl ?_
      go_simp
      exact ⟨_, rfl, { bel := h.bel, siz := (by simpa using h.siz), kp := rk h.kp, k2 := rs h.k2, k3 := rs h.k3, p0 := rp hi h.p0, p1 := rc hi h.p1 (fun v h2 => h2.on (Below.refl _ _)), p2 := rp hi h.p2, p3 := rc hi h.p3 (fun v h2 => h2.on (Below.refl _ _)), p4 := rp hi h.p4, p5 := rp hi h.p5, p6 := rp hi h.p6, p7 := rp hi h.p7, p8 := rp hi h.p8, p9 := fun _ => set_same (by have := h.siz; omega), p10 := rp hi h.p10, p11 := rc hi h.p11 (fun v h2 => h2.on (Below.refl _ _)), p12 := rp hi h.p12, p13 := rc hi h.p13 (fun v h2 => h2.on (Below.refl _ _)), p14 := rp hi h.p14, p15 := rp hi h.p15, p16 := rp hi h.p16, p17 := rp hi h.p17, p18 := rp hi h.p18, p19 := rp hi h.p19 }⟩
    · have hi : 10 < d.size := by omega
      have q2 := h.k2
      obtain ⟨m0, m1, m2, m3⟩ := CL.out wc h.bel
      refine wpOp_guard rfl (wanted_of (d := 21) rfl rfl (h.p9 (hpre _ rfl ⟨9, .guard⟩ (by simp) rfl))) ?_
      go_simp
      exact ⟨_, rfl, { bel := h.bel, siz := (by simpa using h.siz), kp := rk h.kp, k2 := rs h.k2, k3 := rs h.k3, p0 := rp hi h.p0, p1 := rc hi h.p1 (fun v h2 => h2.on (Below.refl _ _)), p2 := rp hi h.p2, p3 := rc hi h.p3 (fun v h2 => h2.on (Below.refl _ _)), p4 := rp hi h.p4, p5 := rp hi h.p5, p6 := rp hi h.p6, p7 := rp hi h.p7, p8 := rp hi h.p8, p9 := rp hi h.p9, p10 := fun _ => set_same (by have := h.siz; omega), p11 := rc hi h.p11 (fun v h2 => h2.on (Below.refl _ _)), p12 := rp hi h.p12, p13 := rc hi h.p13 (fun v h2 => h2.on (Below.refl _ _)), p14 := rp hi h.p14, p15 := rp hi h.p15, p16 := rp hi h.p16, p17 := rp hi h.p17, p18 := rp hi h.p18, p19 := rp hi h.p19 }⟩
    · have hi : 11 < d.size := by omega
      have e10 := h.p10 (hpre _ rfl ⟨10, .data⟩ (by simp) rfl)
      refine wpOp_guard rfl (wanted_of (d := 21) rfl rfl (h.p9 (hpre _ rfl ⟨9, .guard⟩ (by simp) rfl))) ?_
      go_simp
      refine (HCPA.out wc h.bel).mono ?_
      rintro e1 w1 ⟨y1, rfl, hq1, hb⟩
      exact ⟨_, rfl, { bel := h.bel.trans (hb.mono h.bel.size), siz := (by simpa using h.siz), kp := rk h.kp, k2 := rs h.k2, k3 := rs h.k3, p0 := rp hi h.p0, p1 := rc hi h.p1 (fun v h2 => h2.on hb), p2 := rp hi h.p2, p3 := rc hi h.p3 (fun v h2 => h2.on hb), p4 := rp hi h.p4, p5 := rp hi h.p5, p6 := rp hi h.p6, p7 := rp hi h.p7, p8 := rp hi h.p8, p9 := rp hi h.p9, p10 := rp hi h.p10, p11 := fun _ => ⟨_, set_same (by have := h.siz; omega), hq1⟩, p12 := rp hi h.p12, p13 := rc hi h.p13 (fun v h2 => h2.on hb), p14 := rp hi h.p14, p15 := rp hi h.p15, p16 := rp hi h.p16, p17 := rp hi h.p17, p18 := rp hi h.p18, p19 := rp hi h.p19 }⟩
    · have hi : 12 < d.size := by omega
      have q2 := h.k2
      obtain ⟨m0, m1, m2, m3⟩ := CL.out wc h.bel
      refine wpOp_guard rfl (wanted_of (d := 21) rfl rfl (h.p9 (hpre _ rfl ⟨9, .guard⟩ (by simp) rfl))) ?_
      go_simp
      exact ⟨_, rfl, { bel := h.bel, siz := (by simpa using h.siz), kp := rk h.kp, k2 := rs h.k2, k3 := rs h.k3, p0 := rp hi h.p0, p1 := rc hi h.p1 (fun v h2 => h2.on (Below.refl _ _)), p2 := rp hi h.p2, p3 := rc hi h.p3 (fun v h2 => h2.on (Below.refl _ _)), p4 := rp hi h.p4, p5 := rp hi h.p5, p6 := rp hi h.p6, p7 := rp hi h.p7, p8 := rp hi h.p8, p9 := rp hi h.p9, p10 := rp hi h.p10, p11 := rc hi h.p11 (fun v h2 => h2.on (Below.refl _ _)), p12 := fun _ => set_same (by have := h.siz; omega), p13 := rc hi h.p13 (fun v h2 => h2.on (Below.refl _ _)), p14 := rp hi h.p14, p15 := rp hi h.p15, p16 := rp hi h.p16, p17 := rp hi h.p17, p18 := rp hi h.p18, p19 := rp hi h.p19 }⟩
    · have hi : 13 < d.size := by omega
      have e12 := h.p12 (hpre _ rfl ⟨12, .data⟩ (by simp) rfl)
      refine wpOp_guard rfl (wanted_of (d := 21) rfl rfl (h.p9 (hpre _ rfl ⟨9, .guard⟩ (by simp) rfl))) ?_
      go_simp
      refine (HCPA.out wc h.bel).mono ?_
      rintro e1 w1 ⟨y1, rfl, hq1, hb⟩
      exact ⟨_, rfl, { bel := h.bel.trans (hb.mono h.bel.size), siz := (by simpa using h.siz), kp := rk h.kp, k2 := rs h.k2, k3 := rs h.k3, p0 := rp hi h.p0, p1 := rc hi h.p1 (fun v h2 => h2.on hb), p2 := rp hi h.p2, p3 := rc hi h.p3 (fun v h2 => h2.on hb), p4 := rp hi h.p4, p5 := rp hi h.p5, p6 := rp hi h.p6, p7 := rp hi h.p7, p8 := rp hi h.p8, p9 := rp hi h.p9, p10 := rp hi h.p10, p11 := rc hi h.p11 (fun v h2 => h2.on hb), p12 := rp hi h.p12, p13 := fun _ => ⟨_, set_same (by have := h.siz; omega), hq1⟩, p14 := rp hi h.p14, p15 := rp hi h.p15, p16 := rp hi h.p16, p17 := rp hi h.p17, p18 := rp hi h.p18, p19 := rp hi h.p19 }⟩
    · have hi : 14 < d.size := by omega
      obtain ⟨v11, e11, r11⟩ := h.p11 (hpre _ rfl ⟨11, .data⟩ (by simp) rfl)
      obtain ⟨v13, e13, r13⟩ := h.p13 (hpre _ rfl ⟨13, .data⟩ (by simp) rfl)
      refine wpOp_guard rfl (wanted_of (d := 21) rfl rfl (h.p9 (hpre _ rfl ⟨9, .guard⟩ (by simp) rfl))) ?_
      go_simp
      refine (HS3.out wc h.bel v11 v13 r11 r13).mono ?_
      rintro e1 w1 ⟨rfl, hb⟩
      exact ⟨_, rfl, { bel := h.bel.trans (hb.mono h.bel.size), siz := (by simpa using h.siz), kp := rk h.kp, k2 := rs h.k2, k3 := rs h.k3, p0 := rp hi h.p0, p1 := rc hi h.p1 (fun v h2 => h2.on hb), p2 := rp hi h.p2, p3 := rc hi h.p3 (fun v h2 => h2.on hb), p4 := rp hi h.p4, p5 := rp hi h.p5, p6 := rp hi h.p6, p7 := rp hi h.p7, p8 := rp hi h.p8, p9 := rp hi h.p9, p10 := rp hi h.p10, p11 := rc hi h.p11 (fun v h2 => h2.on hb), p12 := rp hi h.p12, p13 := rc hi h.p13 (fun v h2 => h2.on hb), p14 := fun _ => set_same (by have := h.siz; omega), p15 := rp hi h.p15, p16 := rp hi h.p16, p17 := rp hi h.p17, p18 := rp hi h.p18, p19 := rp hi h.p19 }⟩
    · have hi : 15 < d.size := by omega
      have e9 := h.p9 (hpre _ rfl ⟨9, .data⟩ (by simp) rfl)
      have e14 := h.p14 (hpre _ rfl ⟨14, .data⟩ (by simp) rfl)
      refine wpOp_plain rfl rfl ?_
      go_simp
      exact ⟨_, rfl, { bel := h.bel, siz := (by simpa using h.siz), kp := rk h.kp, k2 := rs h.k2, k3 := rs h.k3, p0 := rp hi h.p0, p1 := rc hi h.p1 (fun v h2 => h2.on (Below.refl _ _)), p2 := rp hi h.p2, p3 := rc hi h.p3 (fun v h2 => h2.on (Below.refl _ _)), p4 := rp hi h.p4, p5 := rp hi h.p5, p6 := rp hi h.p6, p7 := rp hi h.p7, p8 := rp hi h.p8, p9 := rp hi h.p9, p10 := rp hi h.p10, p11 := rc hi h.p11 (fun v h2 => h2.on (Below.refl _ _)), p12 := rp hi h.p12, p13 := rc hi h.p13 (fun v h2 => h2.on (Below.refl _ _)), p14 := rp hi h.p14, p15 := fun _ => set_same (by have := h.siz; omega), p16 := rp hi h.p16, p17 := rp hi h.p17, p18 := rp hi h.p18, p19 := rp hi h.p19 }⟩
    · have hi : 16 < d.size := by omega
      have e15 := h.p15 (hpre _ rfl ⟨15, .data⟩ (by simp) rfl)
      refine wpOp_plain rfl rfl ?_
      go_simp
      exact ⟨_, rfl, { bel := h.bel, siz := (by simpa using h.siz), kp := rk h.kp, k2 := rs h.k2, k3 := rs h.k3, p0 := rp hi h.p0, p1 := rc hi h.p1 (fun v h2 => h2.on (Below.refl _ _)), p2 := rp hi h.p2, p3 := rc hi h.p3 (fun v h2 => h2.on (Below.refl _ _)), p4 := rp hi h.p4, p5 := rp hi h.p5, p6 := rp hi h.p6, p7 := rp hi h.p7, p8 := rp hi h.p8, p9 := rp hi h.p9, p10 := rp hi h.p10, p11 := rc hi h.p11 (fun v h2 => h2.on (Below.refl _ _)), p12 := rp hi h.p12, p13 := rc hi h.p13 (fun v h2 => h2.on (Below.refl _ _)), p14 := rp hi h.p14, p15 := rp hi h.p15, p16 := fun _ => set_same (by have := h.siz; omega), p17 := rp hi h.p17, p18 := rp hi h.p18, p19 := rp hi h.p19 }⟩
    · have hi : 17 < d.size := by omega
      refine wpOp_guard rfl (wanted_of (d := 28) rfl rfl (h.p16 (hpre _ rfl ⟨16, .guard⟩ (by simp) rfl))) ?_
      go_simp
      refine (HWK2.out wc h.bel).mono ?_
      rintro e1 w1 ⟨rfl, hb⟩
      exact ⟨_, rfl, { bel := h.bel.trans (hb.mono h.bel.size), siz := (by simpa using h.siz), kp := rk h.kp, k2 := rs h.k2, k3 := rs h.k3, p0 := rp hi h.p0, p1 := rc hi h.p1 (fun v h2 => h2.on hb), p2 := rp hi h.p2, p3 := rc hi h.p3 (fun v h2 => h2.on hb), p4 := rp hi h.p4, p5 := rp hi h.p5, p6 := rp hi h.p6, p7 := rp hi h.p7, p8 := rp hi h.p8, p9 := rp hi h.p9, p10 := rp hi h.p10, p11 := rc hi h.p11 (fun v h2 => h2.on hb), p12 := rp hi h.p12, p13 := rc hi h.p13 (fun v h2 => h2.on hb), p14 := rp hi h.p14, p15 := rp hi h.p15, p16 := rp hi h.p16, p17 := fun _ => set_same (by have := h.siz; omega), p18 := rp hi h.p18, p19 := rp hi h.p19 }⟩
    · have hi : 18 < d.size := by omega
      have e16 := h.p16 (hpre _ rfl ⟨16, .data⟩ (by simp) rfl)
      have e17 := h.p17 (hpre _ rfl ⟨17, .data⟩ (by simp) rfl)
      refine wpOp_plain rfl rfl ?_
      go_simp
      exact ⟨_, rfl, { bel := h.bel, siz := (by simpa using h.siz), kp := rk h.kp, k2 := rs h.k2, k3 := rs h.k3, p0 := rp hi h.p0, p1 := rc hi h.p1 (fun v h2 => h2.on (Below.refl _ _)), p2 := rp hi h.p2, p3 := rc hi h.p3 (fun v h2 => h2.on (Below.refl _ _)), p4 := rp hi h.p4, p5 := rp hi h.p5, p6 := rp hi h.p6, p7 := rp hi h.p7, p8 := rp hi h.p8, p9 := rp hi h.p9, p10 := rp hi h.p10, p11 := rc hi h.p11 (fun v h2 => h2.on (Below.refl _ _)), p12 := rp hi h.p12, p13 := rc hi h.p13 (fun v h2 => h2.on (Below.refl _ _)), p14 := rp hi h.p14, p15 := rp hi h.p15, p16 := rp hi h.p16, p17 := rp hi h.p17, p18 := fun _ => set_same (by have := h.siz; omega), p19 := rp hi h.p19 }⟩
    · have hi : 19 < d.size := by omega
      have e18 := h.p18 (hpre _ rfl ⟨18, .data⟩ (by simp) rfl)
      refine wpOp_plain rfl rfl ?_
      go_simp
      exact ⟨_, rfl, { bel := h.bel, siz := (by simpa using h.siz), kp := rk h.kp, k2 := rs h.k2, k3 := rs h.k3, p0 := rp hi h.p0, p1 := rc hi h.p1 (fun v h2 => h2.on (Below.refl _ _)), p2 := rp hi h.p2, p3 := rc hi h.p3 (fun v h2 => h2.on (Below.refl _ _)), p4 := rp hi h.p4, p5 := rp hi h.p5, p6 := rp hi h.p6, p7 := rp hi h.p7, p8 := rp hi h.p8, p9 := rp hi h.p9, p10 := rp hi h.p10, p11 := rc hi h.p11 (fun v h2 => h2.on (Below.refl _ _)), p12 := rp hi h.p12, p13 := rc hi h.p13 (fun v h2 => h2.on (Below.refl _ _)), p14 := rp hi h.p14, p15 := rp hi h.p15, p16 := rp hi h.p16, p17 := rp hi h.p17, p18 := rp hi h.p18, p19 := fun _ => set_same (by have := h.siz; omega) }⟩
  case genda =>
    intro d a wc hd hI hall
    obtain ⟨t, rfl, h⟩ := hI
    have hdn : ∀ j, j < 20 → dn d j := fun j hj => dn_all hd hall hj
    have hd : ∀ j, (_ : j < 20 := by decide) → dn d j := fun j hj => hdn j hj
    obtain ⟨v1, e1, r1⟩ := h.p1 (hd 1)
    obtain ⟨v3, e3, r3⟩ := h.p3 (hd 3)
    obtain ⟨v11, e11, r11⟩ := h.p11 (hd 11)
    obtain ⟨v13, e13, r13⟩ := h.p13 (hd 13)
    have hfe := frame_eq [(4, _), (12, _), (13, v1), (14, _), (15, v3), (16, _), (17, _), (18, _), (19, _), (20, _), (21, _), (22, _), (23, v11), (24, _), (25, v13), (26, _), (27, _), (28, _), (29, _), (30, _)] (h.siz.trans rfl) h.kp rfl ⟨h.p19 (hd 19), h.p0 (hd 0), e1, h.p2 (hd 2), e3, h.p4 (hd 4), h.p5 (hd 5), h.p6 (hd 6), h.p7 (hd 7), h.p8 (hd 8), h.p9 (hd 9), h.p10 (hd 10), e11, h.p12 (hd 12), e13, h.p14 (hd 14), h.p15 (hd 15), h.p16 (hd 16), h.p17 (hd 17), h.p18 (hd 18), trivial⟩
    simp only [List.foldl_cons, List.foldl_nil, List.setIfInBounds_toArray, List.set_cons_succ, List.set_cons_zero] at hfe
    have hbc := h.bel
    subst hfe
    clear h hdn hd hall
    have HB3 := Lib.hid (HB2.out.trans (hbc.mono HB2.out.size))
    clear hbc r1 r3 r11 r13
    go_wp2_with fail
    go_ret
    exact ⟨rfl, HB3.out⟩
end Go.Proofs.YtkmimjngmfdpmaaGreatDoor
