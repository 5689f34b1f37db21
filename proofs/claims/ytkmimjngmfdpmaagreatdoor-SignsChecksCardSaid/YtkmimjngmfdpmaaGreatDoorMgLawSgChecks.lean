/- SignsChecks: the law's walk. Made by gen_sglaw1.py. -/
import Derived.Test.YtkmimjngmfdpmaaGreatDoorMgSgFind
import Derived.Test.YtkmimjngmfdpmaaGreatDoorMgSgSame
import Derived.Test.YtkmimjngmfdpmaaGreatDoorMgShelfF
import Derived.Test.YtkmimjngmfdpmaaGreatDoorMgSgWorks
namespace Go.Proofs.YtkmimjngmfdpmaaGreatDoor
open Go Go.RowKit

theorem r1Same_eq (v v' : Value) (l : Sg.SList) (w : World) (ha : RdSL w w.heap.size v l) (hb : RdSL w w.heap.size v' l) : Calls Tryz.prog 23 #[v, v'] w (RetBB true w) := by
  refine (r1Same_any v v' l l w ha hb).mono ?_
  rintro e w' ⟨q, rfl, hq, hb⟩
  have : q = true := hq.2 ⟨rfl, rfl⟩
  subst this
  exact ⟨rfl, hb⟩
structure LscR (T0 : Array Value) (W0 : World) (p : Int) (A0 : Option Addr) (n0 c0 : Nat) (A2 : Option Addr) (c2 : Nat) (xb gb : Nat) (ev i1 i2 : Int) (d : Array Bool) (t : Array Value) (wc : World) : Prop where
  bel : Below W0.heap.size W0 wc
  siz : t.size = 55
  kp : ∀ i, i ∉ ([4, 32, 33, 34, 35, 36, 37, 38, 39, 40, 41, 42, 43, 44, 45, 46, 47, 48, 49, 50, 51, 52, 53, 54] : List Nat) → t[i]? = T0[i]?
  k2 : t[2]? = some (.pointer (some ⟨xb, 0, none⟩))
  k5 : t[5]? = some (.pointer (some ⟨gb, 0, none⟩))
  k6 : t[6]? = some (.int .i64 i1)
  k7 : t[7]? = some (.int .i64 i2)
  k8 : t[8]? = some (.int .i64 i1)
  k9 : t[9]? = some (.int .i64 i2)
  p0 : dn d 0 → t[32]? = some (.agg #[.int .i64 p, .slice A2 n0 c2])
  p1 : dn d 1 → t[33]? = some (.int .i64 ev)
  p2 : dn d 2 → t[34]? = some (.agg #[.int .i64 p, .slice A0 n0 c0])
  p3 : dn d 3 → t[35]? = some (.int .i64 ev)
  p4 : dn d 4 → t[36]? = some (.bool true)
  p5 : dn d 5 → t[37]? = some (.bool true)
  p6 : dn d 6 → t[38]? = some (.int .i64 i1)
  p7 : dn d 7 → t[39]? = some (.int .i64 i1)
  p8 : dn d 8 → t[40]? = some (.bool true)
  p9 : dn d 9 → t[41]? = some (.bool true)
  p10 : dn d 10 → t[42]? = some (.bool true)
  p11 : dn d 11 → t[43]? = some (.int .i64 i2)
  p12 : dn d 12 → t[44]? = some (.int .i64 i2)
  p13 : dn d 13 → t[45]? = some (.bool true)
  p14 : dn d 14 → t[46]? = some (.bool true)
  p15 : dn d 15 → t[47]? = some (.bool true)
  p16 : dn d 16 → t[48]? = some (.agg #[.int .i64 p, .slice A2 n0 c2])
  p17 : dn d 17 → t[49]? = some (.agg #[.int .i64 p, .slice A0 n0 c0])
  p18 : dn d 18 → t[50]? = some (.bool true)
  p19 : dn d 19 → t[51]? = some (.bool true)
  p20 : dn d 20 → t[52]? = some (.bool true)
  p21 : dn d 21 → t[53]? = some (.bool true)
  p22 : dn d 22 → t[54]? = some (.bool true)
  p23 : dn d 23 → t[4]? = some (.bool true)
def LscI (T0 : Array Value) (W0 : World) (p : Int) (A0 : Option Addr) (n0 c0 : Nat) (A2 : Option Addr) (c2 : Nat) (xb gb : Nat) (ev i1 i2 : Int) (d : Array Bool) (a : Act) (wc : World) : Prop := ∃ t : Array Value, a = ⟨t, []⟩ ∧ LscR T0 W0 p A0 n0 c0 A2 c2 xb gb ev i1 i2 d t wc

set_option maxRecDepth 100000 in
set_option maxHeartbeats 8000000 in
theorem SignsChecks_any (v : Value) (l : Sg.SList) (c : ByteArray) (w : World) (hr : RdSL w w.heap.size v l) (hg : Glob w) (ht : GTab w) : Calls Tryz.prog 5 #[v, .string c] w (RetBB true w) := by
  have HRL := Lib.hid fun (W : World) (hW : Below w.heap.size w W) => hr.on hW
  have HWK := Lib.hid fun (W : World) (hW : Below w.heap.size w W) => works1_any W (hg.below hW) (ht.below hW)
  obtain ⟨⟨u, rfl, hgl⟩, hf⟩ := hr
  obtain ⟨A0, c0, rfl⟩ := hgl.form
  obtain ⟨W1, hW1⟩ : ∃ W1, W1 = w.alloc (.cells #[.int .i64 l.periods, .slice A0 l.signs.length c0] 24) := ⟨_, rfl⟩
  have hb1 : Below w.heap.size w W1 := by rw [hW1]; exact (Below.refl _ _).alloc (Nat.le_refl _) _
  have hX : W1.heap[w.heap.size]? = some (.cells #[.int .i64 l.periods, .slice A0 l.signs.length c0] 24 (0, 0)) := by rw [hW1]; exact heap_alloc_new _ _
  have hs1 : w.heap.size < W1.heap.size := (Array.getElem?_eq_some_iff.1 hX).1
  have CX : Hid (∀ W, Below W1.heap.size W1 W → W.cell? ⟨w.heap.size, 0, none⟩ = some (.int .i64 l.periods) ∧ W.cell? ⟨w.heap.size, 1, none⟩ = some (.slice A0 l.signs.length c0)) := Lib.hid fun W hW => by
    have p := (hW.block _ hs1).trans hX
    exact ⟨by simp [World.cell?, p], by simp [World.cell?, p]⟩
  obtain ⟨x0, x1⟩ := CX.out W1 (Below.refl _ _)
  have HB1 := Lib.hid hb1
  have HW1 := Lib.hid hW1
  have HBG := Lib.hid (l1Big_any _ l W1 (HRL.out W1 hb1))
  clear hgl hf hW1 hb1 hX hg ht
  cases hbig : Sg.bigV l
  case true =>
    rw [hbig] at HBG
    clear hbig
    go_enter Tryz.func5, Tryz.ntmps5
    go_upto_region 1 with fail
    rw [← HW1.out]
    go_wp2_with fail
    refine HBG.out.mono ?_
    rintro e w2 ⟨rfl, hb2⟩
    have HB2 := Lib.hid (HB1.out.trans (hb2.mono (by omega)))
    clear hb2
    go_wp2_with fail
    refine (HWK.out _ HB2.out).mono ?_
    rintro e w3 ⟨rfl, hb3⟩
    have HB3 := Lib.hid (HB2.out.trans (hb3.mono HB2.out.size))
    clear hb3
    go_wp2_with fail
    go_ret
    exact ⟨rfl, HB3.out⟩
  rw [hbig] at HBG
  by_cases hcs : 1000 < c.size
  · have i1 : (1000 : Int) < (c.size : Int) := by omega
    clear hbig hcs
    go_enter Tryz.func5, Tryz.ntmps5
    go_upto_region 1 with fail
    rw [← HW1.out]
    go_wp2_with fail
    refine HBG.out.mono ?_
    rintro e w2 ⟨rfl, hb2⟩
    have HB2 := Lib.hid (HB1.out.trans (hb2.mono (by omega)))
    clear hb2
    go_wp2_with fail
    refine (HWK.out _ HB2.out).mono ?_
    rintro e w3 ⟨rfl, hb3⟩
    have HB3 := Lib.hid (HB2.out.trans (hb3.mono HB2.out.size))
    clear hb3
    go_wp2_with fail
    go_ret
    exact ⟨rfl, HB3.out⟩
  have i1 : ¬ (1000 : Int) < (c.size : Int) := by omega
  have HSM := Lib.hid (Sg.big_small hbig).1
  clear hbig hcs
  go_enter Tryz.func5, Tryz.ntmps5
  go_upto_region 1 with fail
  rw [← HW1.out]
  go_wp2_with fail
  refine HBG.out.mono ?_
  rintro e w2 ⟨rfl, hb2⟩
  have HB2 := Lib.hid (HB1.out.trans (hb2.mono (by omega)))
  have H12 := Lib.hid hb2
  have hs2 := hb2.size
  clear hb2 x0 x1
  obtain ⟨x0, x1⟩ := CX.out w2 H12.out
  go_wp2_with fail
  refine (r1Copy_any _ l w2 (HRL.out w2 HB2.out) HSM.out).mono ?_
  rintro e w3 ⟨v3, rfl, hr3, hb3⟩
  have HB3 := Lib.hid (HB2.out.trans (hb3.mono HB2.out.size))
  have H13 := Lib.hid (H12.out.trans (hb3.mono hs2))
  have hs3 := hb3.size
  have HR3 := Lib.hid hr3
  obtain ⟨⟨u3, rfl, hgl3⟩, -⟩ := hr3
  obtain ⟨A2, c2, rfl⟩ := hgl3.form
  obtain ⟨w4, hw4⟩ : ∃ w4, w4 = w3.alloc (.cells #[.int .i64 l.periods, .slice A2 l.signs.length c2] 24) := ⟨_, rfl⟩
  have hb4 : Below w3.heap.size w3 w4 := by rw [hw4]; exact (Below.refl _ _).alloc (Nat.le_refl _) _
  have hY : w4.heap[w3.heap.size]? = some (.cells #[.int .i64 l.periods, .slice A2 l.signs.length c2] 24 (0, 0)) := by rw [hw4]; exact heap_alloc_new _ _
  have hs4 : w3.heap.size < w4.heap.size := (Array.getElem?_eq_some_iff.1 hY).1
  have HB4 := Lib.hid (HB3.out.trans (hb4.mono HB3.out.size))
  have H14 := Lib.hid (H13.out.trans (hb4.mono (by omega)))
  have HRG := Lib.hid fun (W : World) (hW : Below w4.heap.size w4 W) => HR3.out.on (hb4.trans (hW.mono (by omega)))
  have CG : Hid (∀ W, Below w4.heap.size w4 W → W.cell? ⟨w.heap.size, 0, none⟩ = some (.int .i64 l.periods) ∧ W.cell? ⟨w.heap.size, 1, none⟩ = some (.slice A0 l.signs.length c0) ∧ W.cell? ⟨w3.heap.size, 0, none⟩ = some (.int .i64 l.periods) ∧ W.cell? ⟨w3.heap.size, 1, none⟩ = some (.slice A2 l.signs.length c2)) := Lib.hid fun W hW => by
    have p := (hW.block _ hs4).trans hY
    obtain ⟨q0, q1⟩ := CX.out W (H14.out.trans (hW.mono (by omega)))
    exact ⟨q0, q1, by simp [World.cell?, p], by simp [World.cell?, p]⟩
  have HBX := Lib.hid fun (W : World) (hW : Below w4.heap.size w4 W) => HB4.out.trans (hW.mono HB4.out.size)
  have HW4 := Lib.hid hw4
  clear hb3 hgl3 hw4 hb4 hY x0 x1
  obtain ⟨x0, x1⟩ := CX.out w3 H13.out
  go_upto_region 4 with fail
  rw [← HW4.out]
  clear x0 x1
  obtain ⟨x0, x1, y0, y1⟩ := CG.out w4 (Below.refl _ _)
  obtain ⟨⟨j1, j2⟩, hii⟩ : ∃ q, q = Sg.findV l c := ⟨_, rfl⟩
  have HF1 := Lib.hid fun (W : World) (hW : Below w4.heap.size w4 W) => gFind_any _ l c W (HRG.out W hW)
  have HF2 := Lib.hid fun (W : World) (hW : Below w4.heap.size w4 W) => r1Find_any _ l c W (HRL.out W (HBX.out W hW))
  rw [← hii] at HF1 HF2
  clear hii
  go_wp2_with fail
  refine (HF1.out _ (Below.refl _ _)).mono ?_
  rintro e w5 ⟨rfl, hb5⟩
  have H45 := Lib.hid hb5
  have hs5 := hb5.size
  clear hb5 x0 x1 y0 y1
  obtain ⟨x0, x1, y0, y1⟩ := CG.out w5 H45.out
  go_wp2_with fail
  refine (HF2.out _ H45.out).mono ?_
  rintro e w6 ⟨rfl, hb6⟩
  have H46 := Lib.hid (H45.out.trans (hb6.mono hs5))
  have HB6 := Lib.hid (HBX.out _ H46.out)
  have hs6 := hb6.size
  clear hb6 x0 x1 y0 y1
  have CL2 := Lib.hid fun (W : World) (hW : Below w6.heap.size w6 W) => CG.out W (H46.out.trans (hW.mono (by omega)))
  obtain ⟨ev, hev⟩ : ∃ ev, ev = Sg.checkV l := ⟨_, rfl⟩
  have HC1 := Lib.hid fun (W : World) (hW : Below w6.heap.size w6 W) => gCheck_any _ l W (HRG.out W (H46.out.trans (hW.mono (by omega))))
  have HC2 := Lib.hid fun (W : World) (hW : Below w6.heap.size w6 W) => r1Check_any _ l W (HRL.out W (HBX.out W (H46.out.trans (hW.mono (by omega)))))
  have HC3 := Lib.hid fun (W : World) (hW : Below w6.heap.size w6 W) => r1Same_eq _ _ l W (HRG.out W (H46.out.trans (hW.mono (by omega)))) (HRL.out W (HBX.out W (H46.out.trans (hW.mono (by omega)))))
  have HWK := Lib.hid fun (W : World) (hW : Below w6.heap.size w6 W) => HWK.out W (HBX.out W (H46.out.trans (hW.mono (by omega))))
  rw [← hev] at HC1 HC2
  clear hev
  obtain ⟨gb, hgb⟩ : ∃ gb, gb = w3.heap.size := ⟨_, rfl⟩
  rw [← hgb] at CL2
  have HGB := Lib.hid hgb
  clear hgb
  go_upto_region 6 with fail
  rw [← HGB.out]
  refine wp_region_inv2T (fun T0 => LscI T0 w6 l.periods A0 l.signs.length c0 A2 c2 w.heap.size gb ev j1 j2) (by kernel_rfl) (by kernel_rfl) ?g0a ?gstepa ?genda
  case g0a =>
    have hno : ∀ j, ¬ dn (Array.replicate 24 false) j := by
      intro j; unfold dn; by_cases hj : j < 24 <;> simp [Array.getD, hj]
    have na : ∀ {j : Nat} {Z : Prop}, dn (Array.replicate 24 false) j → Z := fun hj => absurd hj (hno _)
    exact ⟨_, rfl, { bel := (Below.refl _ _).drew, siz := rfl, kp := fun _ _ => rfl, k2 := rfl, k5 := rfl, k6 := rfl, k7 := rfl, k8 := rfl, k9 := rfl, p0 := na, p1 := na, p2 := na, p3 := na, p4 := na, p5 := na, p6 := na, p7 := na, p8 := na, p9 := na, p10 := na, p11 := na, p12 := na, p13 := na, p14 := na, p15 := na, p16 := na, p17 := na, p18 := na, p19 := na, p20 := na, p21 := na, p22 := na, p23 := na }⟩
  case gstepa =>
    intro T0 d a wc i hd hI hi
    obtain ⟨hlt, hnd, hpre⟩ := mem_ready hi
    have hd' : d.size = 24 := hd
    have hin : i < 24 := hlt
    clear hi hd hlt
    obtain ⟨t, rfl, h⟩ := hI
    have hcs : i = 0 ∨ i = 1 ∨ i = 2 ∨ i = 3 ∨ i = 4 ∨ i = 5 ∨ i = 6 ∨ i = 7 ∨ i = 8 ∨ i = 9 ∨ i = 10 ∨ i = 11 ∨ i = 12 ∨ i = 13 ∨ i = 14 ∨ i = 15 ∨ i = 16 ∨ i = 17 ∨ i = 18 ∨ i = 19 ∨ i = 20 ∨ i = 21 ∨ i = 22 ∨ i = 23 := by omega
    rcases hcs with rfl | rfl | rfl | rfl | rfl | rfl | rfl | rfl | rfl | rfl | rfl | rfl | rfl | rfl | rfl | rfl | rfl | rfl | rfl | rfl | rfl | rfl | rfl | rfl
    · have hi : 0 < d.size := by omega
      have q5 := h.k5
      obtain ⟨m0, m1, n0', n1'⟩ := CL2.out wc h.bel
      refine wpOp_plain rfl rfl ?_
      go_simp
      exact ⟨_, rfl, { bel := h.bel, siz := (by simpa using h.siz), kp := rk h.kp, k2 := rs h.k2, k5 := rs h.k5, k6 := rs h.k6, k7 := rs h.k7, k8 := rs h.k8, k9 := rs h.k9, p0 := fun _ => set_same (by have := h.siz; omega), p1 := rp hi h.p1, p2 := rp hi h.p2, p3 := rp hi h.p3, p4 := rp hi h.p4, p5 := rp hi h.p5, p6 := rp hi h.p6, p7 := rp hi h.p7, p8 := rp hi h.p8, p9 := rp hi h.p9, p10 := rp hi h.p10, p11 := rp hi h.p11, p12 := rp hi h.p12, p13 := rp hi h.p13, p14 := rp hi h.p14, p15 := rp hi h.p15, p16 := rp hi h.p16, p17 := rp hi h.p17, p18 := rp hi h.p18, p19 := rp hi h.p19, p20 := rp hi h.p20, p21 := rp hi h.p21, p22 := rp hi h.p22, p23 := rp hi h.p23 }⟩
    · have hi : 1 < d.size := by omega
      have e0 := h.p0 (hpre _ rfl ⟨0, .data⟩ (by simp) rfl)
      refine wpOp_plain rfl rfl ?_
      go_simp
      refine (HC1.out wc h.bel).mono ?_
      rintro e1 w1 ⟨rfl, hb⟩
      exact ⟨_, rfl, { bel := h.bel.trans (hb.mono h.bel.size), siz := (by simpa using h.siz), kp := rk h.kp, k2 := rs h.k2, k5 := rs h.k5, k6 := rs h.k6, k7 := rs h.k7, k8 := rs h.k8, k9 := rs h.k9, p0 := rp hi h.p0, p1 := fun _ => set_same (by have := h.siz; omega), p2 := rp hi h.p2, p3 := rp hi h.p3, p4 := rp hi h.p4, p5 := rp hi h.p5, p6 := rp hi h.p6, p7 := rp hi h.p7, p8 := rp hi h.p8, p9 := rp hi h.p9, p10 := rp hi h.p10, p11 := rp hi h.p11, p12 := rp hi h.p12, p13 := rp hi h.p13, p14 := rp hi h.p14, p15 := rp hi h.p15, p16 := rp hi h.p16, p17 := rp hi h.p17, p18 := rp hi h.p18, p19 := rp hi h.p19, p20 := rp hi h.p20, p21 := rp hi h.p21, p22 := rp hi h.p22, p23 := rp hi h.p23 }⟩
    · have hi : 2 < d.size := by omega
      have q2 := h.k2
      obtain ⟨m0, m1, n0', n1'⟩ := CL2.out wc h.bel
      refine wpOp_plain rfl rfl ?_
      go_simp
      exact ⟨_, rfl, { bel := h.bel, siz := (by simpa using h.siz), kp := rk h.kp, k2 := rs h.k2, k5 := rs h.k5, k6 := rs h.k6, k7 := rs h.k7, k8 := rs h.k8, k9 := rs h.k9, p0 := rp hi h.p0, p1 := rp hi h.p1, p2 := fun _ => set_same (by have := h.siz; omega), p3 := rp hi h.p3, p4 := rp hi h.p4, p5 := rp hi h.p5, p6 := rp hi h.p6, p7 := rp hi h.p7, p8 := rp hi h.p8, p9 := rp hi h.p9, p10 := rp hi h.p10, p11 := rp hi h.p11, p12 := rp hi h.p12, p13 := rp hi h.p13, p14 := rp hi h.p14, p15 := rp hi h.p15, p16 := rp hi h.p16, p17 := rp hi h.p17, p18 := rp hi h.p18, p19 := rp hi h.p19, p20 := rp hi h.p20, p21 := rp hi h.p21, p22 := rp hi h.p22, p23 := rp hi h.p23 }⟩
    · have hi : 3 < d.size := by omega
      have e2 := h.p2 (hpre _ rfl ⟨2, .data⟩ (by simp) rfl)
      refine wpOp_plain rfl rfl ?_
      go_simp
      refine (HC2.out wc h.bel).mono ?_
      rintro e1 w1 ⟨rfl, hb⟩
      exact ⟨_, rfl, { bel := h.bel.trans (hb.mono h.bel.size), siz := (by simpa using h.siz), kp := rk h.kp, k2 := rs h.k2, k5 := rs h.k5, k6 := rs h.k6, k7 := rs h.k7, k8 := rs h.k8, k9 := rs h.k9, p0 := rp hi h.p0, p1 := rp hi h.p1, p2 := rp hi h.p2, p3 := fun _ => set_same (by have := h.siz; omega), p4 := rp hi h.p4, p5 := rp hi h.p5, p6 := rp hi h.p6, p7 := rp hi h.p7, p8 := rp hi h.p8, p9 := rp hi h.p9, p10 := rp hi h.p10, p11 := rp hi h.p11, p12 := rp hi h.p12, p13 := rp hi h.p13, p14 := rp hi h.p14, p15 := rp hi h.p15, p16 := rp hi h.p16, p17 := rp hi h.p17, p18 := rp hi h.p18, p19 := rp hi h.p19, p20 := rp hi h.p20, p21 := rp hi h.p21, p22 := rp hi h.p22, p23 := rp hi h.p23 }⟩
    · have hi : 4 < d.size := by omega
      have e1 := h.p1 (hpre _ rfl ⟨1, .data⟩ (by simp) rfl)
      have e3 := h.p3 (hpre _ rfl ⟨3, .data⟩ (by simp) rfl)
      refine wpOp_plain rfl rfl ?_
      go_simp
      exact ⟨_, rfl, { bel := h.bel, siz := (by simpa using h.siz), kp := rk h.kp, k2 := rs h.k2, k5 := rs h.k5, k6 := rs h.k6, k7 := rs h.k7, k8 := rs h.k8, k9 := rs h.k9, p0 := rp hi h.p0, p1 := rp hi h.p1, p2 := rp hi h.p2, p3 := rp hi h.p3, p4 := fun _ => set_same (by have := h.siz; omega), p5 := rp hi h.p5, p6 := rp hi h.p6, p7 := rp hi h.p7, p8 := rp hi h.p8, p9 := rp hi h.p9, p10 := rp hi h.p10, p11 := rp hi h.p11, p12 := rp hi h.p12, p13 := rp hi h.p13, p14 := rp hi h.p14, p15 := rp hi h.p15, p16 := rp hi h.p16, p17 := rp hi h.p17, p18 := rp hi h.p18, p19 := rp hi h.p19, p20 := rp hi h.p20, p21 := rp hi h.p21, p22 := rp hi h.p22, p23 := rp hi h.p23 }⟩
    · have hi : 5 < d.size := by omega
      have e4 := h.p4 (hpre _ rfl ⟨4, .data⟩ (by simp) rfl)
      refine wpOp_plain rfl rfl ?_
      go_simp
      exact ⟨_, rfl, { bel := h.bel, siz := (by simpa using h.siz), kp := rk h.kp, k2 := rs h.k2, k5 := rs h.k5, k6 := rs h.k6, k7 := rs h.k7, k8 := rs h.k8, k9 := rs h.k9, p0 := rp hi h.p0, p1 := rp hi h.p1, p2 := rp hi h.p2, p3 := rp hi h.p3, p4 := rp hi h.p4, p5 := fun _ => set_same (by have := h.siz; omega), p6 := rp hi h.p6, p7 := rp hi h.p7, p8 := rp hi h.p8, p9 := rp hi h.p9, p10 := rp hi h.p10, p11 := rp hi h.p11, p12 := rp hi h.p12, p13 := rp hi h.p13, p14 := rp hi h.p14, p15 := rp hi h.p15, p16 := rp hi h.p16, p17 := rp hi h.p17, p18 := rp hi h.p18, p19 := rp hi h.p19, p20 := rp hi h.p20, p21 := rp hi h.p21, p22 := rp hi h.p22, p23 := rp hi h.p23 }⟩
    · have hi : 6 < d.size := by omega
      have q6 := h.k6
      refine wpOp_guard rfl (wanted_of (d := 37) rfl rfl (h.p5 (hpre _ rfl ⟨5, .guard⟩ (by simp) rfl))) ?_
      go_simp
      exact ⟨_, rfl, { bel := h.bel, siz := (by simpa using h.siz), kp := rk h.kp, k2 := rs h.k2, k5 := rs h.k5, k6 := rs h.k6, k7 := rs h.k7, k8 := rs h.k8, k9 := rs h.k9, p0 := rp hi h.p0, p1 := rp hi h.p1, p2 := rp hi h.p2, p3 := rp hi h.p3, p4 := rp hi h.p4, p5 := rp hi h.p5, p6 := fun _ => set_same (by have := h.siz; omega), p7 := rp hi h.p7, p8 := rp hi h.p8, p9 := rp hi h.p9, p10 := rp hi h.p10, p11 := rp hi h.p11, p12 := rp hi h.p12, p13 := rp hi h.p13, p14 := rp hi h.p14, p15 := rp hi h.p15, p16 := rp hi h.p16, p17 := rp hi h.p17, p18 := rp hi h.p18, p19 := rp hi h.p19, p20 := rp hi h.p20, p21 := rp hi h.p21, p22 := rp hi h.p22, p23 := rp hi h.p23 }⟩
    · have hi : 7 < d.size := by omega
      have q8 := h.k8
      refine wpOp_guard rfl (wanted_of (d := 37) rfl rfl (h.p5 (hpre _ rfl ⟨5, .guard⟩ (by simp) rfl))) ?_
      go_simp
      exact ⟨_, rfl, { bel := h.bel, siz := (by simpa using h.siz), kp := rk h.kp, k2 := rs h.k2, k5 := rs h.k5, k6 := rs h.k6, k7 := rs h.k7, k8 := rs h.k8, k9 := rs h.k9, p0 := rp hi h.p0, p1 := rp hi h.p1, p2 := rp hi h.p2, p3 := rp hi h.p3, p4 := rp hi h.p4, p5 := rp hi h.p5, p6 := rp hi h.p6, p7 := fun _ => set_same (by have := h.siz; omega), p8 := rp hi h.p8, p9 := rp hi h.p9, p10 := rp hi h.p10, p11 := rp hi h.p11, p12 := rp hi h.p12, p13 := rp hi h.p13, p14 := rp hi h.p14, p15 := rp hi h.p15, p16 := rp hi h.p16, p17 := rp hi h.p17, p18 := rp hi h.p18, p19 := rp hi h.p19, p20 := rp hi h.p20, p21 := rp hi h.p21, p22 := rp hi h.p22, p23 := rp hi h.p23 }⟩
    · have hi : 8 < d.size := by omega
      have e6 := h.p6 (hpre _ rfl ⟨6, .data⟩ (by simp) rfl)
      have e7 := h.p7 (hpre _ rfl ⟨7, .data⟩ (by simp) rfl)
      refine wpOp_guard rfl (wanted_of (d := 37) rfl rfl (h.p5 (hpre _ rfl ⟨5, .guard⟩ (by simp) rfl))) ?_
      go_simp
      exact ⟨_, rfl, { bel := h.bel, siz := (by simpa using h.siz), kp := rk h.kp, k2 := rs h.k2, k5 := rs h.k5, k6 := rs h.k6, k7 := rs h.k7, k8 := rs h.k8, k9 := rs h.k9, p0 := rp hi h.p0, p1 := rp hi h.p1, p2 := rp hi h.p2, p3 := rp hi h.p3, p4 := rp hi h.p4, p5 := rp hi h.p5, p6 := rp hi h.p6, p7 := rp hi h.p7, p8 := fun _ => set_same (by have := h.siz; omega), p9 := rp hi h.p9, p10 := rp hi h.p10, p11 := rp hi h.p11, p12 := rp hi h.p12, p13 := rp hi h.p13, p14 := rp hi h.p14, p15 := rp hi h.p15, p16 := rp hi h.p16, p17 := rp hi h.p17, p18 := rp hi h.p18, p19 := rp hi h.p19, p20 := rp hi h.p20, p21 := rp hi h.p21, p22 := rp hi h.p22, p23 := rp hi h.p23 }⟩
    · have hi : 9 < d.size := by omega
      have e5 := h.p5 (hpre _ rfl ⟨5, .data⟩ (by simp) rfl)
      have e8 := h.p8 (hpre _ rfl ⟨8, .data⟩ (by simp) rfl)
      refine wpOp_plain rfl rfl ?_
      go_simp
      exact ⟨_, rfl, { bel := h.bel, siz := (by simpa using h.siz), kp := rk h.kp, k2 := rs h.k2, k5 := rs h.k5, k6 := rs h.k6, k7 := rs h.k7, k8 := rs h.k8, k9 := rs h.k9, p0 := rp hi h.p0, p1 := rp hi h.p1, p2 := rp hi h.p2, p3 := rp hi h.p3, p4 := rp hi h.p4, p5 := rp hi h.p5, p6 := rp hi h.p6, p7 := rp hi h.p7, p8 := rp hi h.p8, p9 := fun _ => set_same (by have := h.siz; omega), p10 := rp hi h.p10, p11 := rp hi h.p11, p12 := rp hi h.p12, p13 := rp hi h.p13, p14 := rp hi h.p14, p15 := rp hi h.p15, p16 := rp hi h.p16, p17 := rp hi h.p17, p18 := rp hi h.p18, p19 := rp hi h.p19, p20 := rp hi h.p20, p21 := rp hi h.p21, p22 := rp hi h.p22, p23 := rp hi h.p23 }⟩
    · have hi : 10 < d.size := by omega
      have e9 := h.p9 (hpre _ rfl ⟨9, .data⟩ (by simp) rfl)
      refine wpOp_plain rfl rfl ?_
      go_simp
      exact ⟨_, rfl, { bel := h.bel, siz := (by simpa using h.siz), kp := rk h.kp, k2 := rs h.k2, k5 := rs h.k5, k6 := rs h.k6, k7 := rs h.k7, k8 := rs h.k8, k9 := rs h.k9, p0 := rp hi h.p0, p1 := rp hi h.p1, p2 := rp hi h.p2, p3 := rp hi h.p3, p4 := rp hi h.p4, p5 := rp hi h.p5, p6 := rp hi h.p6, p7 := rp hi h.p7, p8 := rp hi h.p8, p9 := rp hi h.p9, p10 := fun _ => set_same (by have := h.siz; omega), p11 := rp hi h.p11, p12 := rp hi h.p12, p13 := rp hi h.p13, p14 := rp hi h.p14, p15 := rp hi h.p15, p16 := rp hi h.p16, p17 := rp hi h.p17, p18 := rp hi h.p18, p19 := rp hi h.p19, p20 := rp hi h.p20, p21 := rp hi h.p21, p22 := rp hi h.p22, p23 := rp hi h.p23 }⟩
    · have hi : 11 < d.size := by omega
      have q7 := h.k7
      refine wpOp_guard rfl (wanted_of (d := 42) rfl rfl (h.p10 (hpre _ rfl ⟨10, .guard⟩ (by simp) rfl))) ?_
      go_simp
      exact ⟨_, rfl, { bel := h.bel, siz := (by simpa using h.siz), kp := rk h.kp, k2 := rs h.k2, k5 := rs h.k5, k6 := rs h.k6, k7 := rs h.k7, k8 := rs h.k8, k9 := rs h.k9, p0 := rp hi h.p0, p1 := rp hi h.p1, p2 := rp hi h.p2, p3 := rp hi h.p3, p4 := rp hi h.p4, p5 := rp hi h.p5, p6 := rp hi h.p6, p7 := rp hi h.p7, p8 := rp hi h.p8, p9 := rp hi h.p9, p10 := rp hi h.p10, p11 := fun _ => set_same (by have := h.siz; omega), p12 := rp hi h.p12, p13 := rp hi h.p13, p14 := rp hi h.p14, p15 := rp hi h.p15, p16 := rp hi h.p16, p17 := rp hi h.p17, p18 := rp hi h.p18, p19 := rp hi h.p19, p20 := rp hi h.p20, p21 := rp hi h.p21, p22 := rp hi h.p22, p23 := rp hi h.p23 }⟩
    · have hi : 12 < d.size := by omega
      have q9 := h.k9
      refine wpOp_guard rfl (wanted_of (d := 42) rfl rfl (h.p10 (hpre _ rfl ⟨10, .guard⟩ (by simp) rfl))) ?_
      go_simp
      exact ⟨_, rfl, { bel := h.bel, siz := (by simpa using h.siz), kp := rk h.kp, k2 := rs h.k2, k5 := rs h.k5, k6 := rs h.k6, k7 := rs h.k7, k8 := rs h.k8, k9 := rs h.k9, p0 := rp hi h.p0, p1 := rp hi h.p1, p2 := rp hi h.p2, p3 := rp hi h.p3, p4 := rp hi h.p4, p5 := rp hi h.p5, p6 := rp hi h.p6, p7 := rp hi h.p7, p8 := rp hi h.p8, p9 := rp hi h.p9, p10 := rp hi h.p10, p11 := rp hi h.p11, p12 := fun _ => set_same (by have := h.siz; omega), p13 := rp hi h.p13, p14 := rp hi h.p14, p15 := rp hi h.p15, p16 := rp hi h.p16, p17 := rp hi h.p17, p18 := rp hi h.p18, p19 := rp hi h.p19, p20 := rp hi h.p20, p21 := rp hi h.p21, p22 := rp hi h.p22, p23 := rp hi h.p23 }⟩
    · have hi : 13 < d.size := by omega
      have e11 := h.p11 (hpre _ rfl ⟨11, .data⟩ (by simp) rfl)
      have e12 := h.p12 (hpre _ rfl ⟨12, .data⟩ (by simp) rfl)
      refine wpOp_guard rfl (wanted_of (d := 42) rfl rfl (h.p10 (hpre _ rfl ⟨10, .guard⟩ (by simp) rfl))) ?_
      go_simp
      exact ⟨_, rfl, { bel := h.bel, siz := (by simpa using h.siz), kp := rk h.kp, k2 := rs h.k2, k5 := rs h.k5, k6 := rs h.k6, k7 := rs h.k7, k8 := rs h.k8, k9 := rs h.k9, p0 := rp hi h.p0, p1 := rp hi h.p1, p2 := rp hi h.p2, p3 := rp hi h.p3, p4 := rp hi h.p4, p5 := rp hi h.p5, p6 := rp hi h.p6, p7 := rp hi h.p7, p8 := rp hi h.p8, p9 := rp hi h.p9, p10 := rp hi h.p10, p11 := rp hi h.p11, p12 := rp hi h.p12, p13 := fun _ => set_same (by have := h.siz; omega), p14 := rp hi h.p14, p15 := rp hi h.p15, p16 := rp hi h.p16, p17 := rp hi h.p17, p18 := rp hi h.p18, p19 := rp hi h.p19, p20 := rp hi h.p20, p21 := rp hi h.p21, p22 := rp hi h.p22, p23 := rp hi h.p23 }⟩
    · have hi : 14 < d.size := by omega
      have e10 := h.p10 (hpre _ rfl ⟨10, .data⟩ (by simp) rfl)
      have e13 := h.p13 (hpre _ rfl ⟨13, .data⟩ (by simp) rfl)
      refine wpOp_plain rfl rfl ?_
      go_simp
      exact ⟨_, rfl, { bel := h.bel, siz := (by simpa using h.siz), kp := rk h.kp, k2 := rs h.k2, k5 := rs h.k5, k6 := rs h.k6, k7 := rs h.k7, k8 := rs h.k8, k9 := rs h.k9, p0 := rp hi h.p0, p1 := rp hi h.p1, p2 := rp hi h.p2, p3 := rp hi h.p3, p4 := rp hi h.p4, p5 := rp hi h.p5, p6 := rp hi h.p6, p7 := rp hi h.p7, p8 := rp hi h.p8, p9 := rp hi h.p9, p10 := rp hi h.p10, p11 := rp hi h.p11, p12 := rp hi h.p12, p13 := rp hi h.p13, p14 := fun _ => set_same (by have := h.siz; omega), p15 := rp hi h.p15, p16 := rp hi h.p16, p17 := rp hi h.p17, p18 := rp hi h.p18, p19 := rp hi h.p19, p20 := rp hi h.p20, p21 := rp hi h.p21, p22 := rp hi h.p22, p23 := rp hi h.p23 }⟩
    · have hi : 15 < d.size := by omega
      have e14 := h.p14 (hpre _ rfl ⟨14, .data⟩ (by simp) rfl)
      refine wpOp_plain rfl rfl ?_
      go_simp
      exact ⟨_, rfl, { bel := h.bel, siz := (by simpa using h.siz), kp := rk h.kp, k2 := rs h.k2, k5 := rs h.k5, k6 := rs h.k6, k7 := rs h.k7, k8 := rs h.k8, k9 := rs h.k9, p0 := rp hi h.p0, p1 := rp hi h.p1, p2 := rp hi h.p2, p3 := rp hi h.p3, p4 := rp hi h.p4, p5 := rp hi h.p5, p6 := rp hi h.p6, p7 := rp hi h.p7, p8 := rp hi h.p8, p9 := rp hi h.p9, p10 := rp hi h.p10, p11 := rp hi h.p11, p12 := rp hi h.p12, p13 := rp hi h.p13, p14 := rp hi h.p14, p15 := fun _ => set_same (by have := h.siz; omega), p16 := rp hi h.p16, p17 := rp hi h.p17, p18 := rp hi h.p18, p19 := rp hi h.p19, p20 := rp hi h.p20, p21 := rp hi h.p21, p22 := rp hi h.p22, p23 := rp hi h.p23 }⟩
    · have hi : 16 < d.size := by omega
      have q5 := h.k5
      obtain ⟨m0, m1, n0', n1'⟩ := CL2.out wc h.bel
      refine wpOp_guard rfl (wanted_of (d := 47) rfl rfl (h.p15 (hpre _ rfl ⟨15, .guard⟩ (by simp) rfl))) ?_
      go_simp
      exact ⟨_, rfl, { bel := h.bel, siz := (by simpa using h.siz), kp := rk h.kp, k2 := rs h.k2, k5 := rs h.k5, k6 := rs h.k6, k7 := rs h.k7, k8 := rs h.k8, k9 := rs h.k9, p0 := rp hi h.p0, p1 := rp hi h.p1, p2 := rp hi h.p2, p3 := rp hi h.p3, p4 := rp hi h.p4, p5 := rp hi h.p5, p6 := rp hi h.p6, p7 := rp hi h.p7, p8 := rp hi h.p8, p9 := rp hi h.p9, p10 := rp hi h.p10, p11 := rp hi h.p11, p12 := rp hi h.p12, p13 := rp hi h.p13, p14 := rp hi h.p14, p15 := rp hi h.p15, p16 := fun _ => set_same (by have := h.siz; omega), p17 := rp hi h.p17, p18 := rp hi h.p18, p19 := rp hi h.p19, p20 := rp hi h.p20, p21 := rp hi h.p21, p22 := rp hi h.p22, p23 := rp hi h.p23 }⟩
    · have hi : 17 < d.size := by omega
      have q2 := h.k2
      obtain ⟨m0, m1, n0', n1'⟩ := CL2.out wc h.bel
      refine wpOp_guard rfl (wanted_of (d := 47) rfl rfl (h.p15 (hpre _ rfl ⟨15, .guard⟩ (by simp) rfl))) ?_
      go_simp
      exact ⟨_, rfl, { bel := h.bel, siz := (by simpa using h.siz), kp := rk h.kp, k2 := rs h.k2, k5 := rs h.k5, k6 := rs h.k6, k7 := rs h.k7, k8 := rs h.k8, k9 := rs h.k9, p0 := rp hi h.p0, p1 := rp hi h.p1, p2 := rp hi h.p2, p3 := rp hi h.p3, p4 := rp hi h.p4, p5 := rp hi h.p5, p6 := rp hi h.p6, p7 := rp hi h.p7, p8 := rp hi h.p8, p9 := rp hi h.p9, p10 := rp hi h.p10, p11 := rp hi h.p11, p12 := rp hi h.p12, p13 := rp hi h.p13, p14 := rp hi h.p14, p15 := rp hi h.p15, p16 := rp hi h.p16, p17 := fun _ => set_same (by have := h.siz; omega), p18 := rp hi h.p18, p19 := rp hi h.p19, p20 := rp hi h.p20, p21 := rp hi h.p21, p22 := rp hi h.p22, p23 := rp hi h.p23 }⟩
    · have hi : 18 < d.size := by omega
      have e16 := h.p16 (hpre _ rfl ⟨16, .data⟩ (by simp) rfl)
      have e17 := h.p17 (hpre _ rfl ⟨17, .data⟩ (by simp) rfl)
      refine wpOp_guard rfl (wanted_of (d := 47) rfl rfl (h.p15 (hpre _ rfl ⟨15, .guard⟩ (by simp) rfl))) ?_
      go_simp
      refine (HC3.out wc h.bel).mono ?_
      rintro e1 w1 ⟨rfl, hb⟩
      exact ⟨_, rfl, { bel := h.bel.trans (hb.mono h.bel.size), siz := (by simpa using h.siz), kp := rk h.kp, k2 := rs h.k2, k5 := rs h.k5, k6 := rs h.k6, k7 := rs h.k7, k8 := rs h.k8, k9 := rs h.k9, p0 := rp hi h.p0, p1 := rp hi h.p1, p2 := rp hi h.p2, p3 := rp hi h.p3, p4 := rp hi h.p4, p5 := rp hi h.p5, p6 := rp hi h.p6, p7 := rp hi h.p7, p8 := rp hi h.p8, p9 := rp hi h.p9, p10 := rp hi h.p10, p11 := rp hi h.p11, p12 := rp hi h.p12, p13 := rp hi h.p13, p14 := rp hi h.p14, p15 := rp hi h.p15, p16 := rp hi h.p16, p17 := rp hi h.p17, p18 := fun _ => set_same (by have := h.siz; omega), p19 := rp hi h.p19, p20 := rp hi h.p20, p21 := rp hi h.p21, p22 := rp hi h.p22, p23 := rp hi h.p23 }⟩
    · have hi : 19 < d.size := by omega
      have e15 := h.p15 (hpre _ rfl ⟨15, .data⟩ (by simp) rfl)
      have e18 := h.p18 (hpre _ rfl ⟨18, .data⟩ (by simp) rfl)
      refine wpOp_plain rfl rfl ?_
      go_simp
      exact ⟨_, rfl, { bel := h.bel, siz := (by simpa using h.siz), kp := rk h.kp, k2 := rs h.k2, k5 := rs h.k5, k6 := rs h.k6, k7 := rs h.k7, k8 := rs h.k8, k9 := rs h.k9, p0 := rp hi h.p0, p1 := rp hi h.p1, p2 := rp hi h.p2, p3 := rp hi h.p3, p4 := rp hi h.p4, p5 := rp hi h.p5, p6 := rp hi h.p6, p7 := rp hi h.p7, p8 := rp hi h.p8, p9 := rp hi h.p9, p10 := rp hi h.p10, p11 := rp hi h.p11, p12 := rp hi h.p12, p13 := rp hi h.p13, p14 := rp hi h.p14, p15 := rp hi h.p15, p16 := rp hi h.p16, p17 := rp hi h.p17, p18 := rp hi h.p18, p19 := fun _ => set_same (by have := h.siz; omega), p20 := rp hi h.p20, p21 := rp hi h.p21, p22 := rp hi h.p22, p23 := rp hi h.p23 }⟩
    · have hi : 20 < d.size := by omega
      have e19 := h.p19 (hpre _ rfl ⟨19, .data⟩ (by simp) rfl)
      refine wpOp_plain rfl rfl ?_
      go_simp
      exact ⟨_, rfl, { bel := h.bel, siz := (by simpa using h.siz), kp := rk h.kp, k2 := rs h.k2, k5 := rs h.k5, k6 := rs h.k6, k7 := rs h.k7, k8 := rs h.k8, k9 := rs h.k9, p0 := rp hi h.p0, p1 := rp hi h.p1, p2 := rp hi h.p2, p3 := rp hi h.p3, p4 := rp hi h.p4, p5 := rp hi h.p5, p6 := rp hi h.p6, p7 := rp hi h.p7, p8 := rp hi h.p8, p9 := rp hi h.p9, p10 := rp hi h.p10, p11 := rp hi h.p11, p12 := rp hi h.p12, p13 := rp hi h.p13, p14 := rp hi h.p14, p15 := rp hi h.p15, p16 := rp hi h.p16, p17 := rp hi h.p17, p18 := rp hi h.p18, p19 := rp hi h.p19, p20 := fun _ => set_same (by have := h.siz; omega), p21 := rp hi h.p21, p22 := rp hi h.p22, p23 := rp hi h.p23 }⟩
    · have hi : 21 < d.size := by omega
      refine wpOp_guard rfl (wanted_of (d := 52) rfl rfl (h.p20 (hpre _ rfl ⟨20, .guard⟩ (by simp) rfl))) ?_
      go_simp
      refine (HWK.out wc h.bel).mono ?_
      rintro e1 w1 ⟨rfl, hb⟩
      exact ⟨_, rfl, { bel := h.bel.trans (hb.mono h.bel.size), siz := (by simpa using h.siz), kp := rk h.kp, k2 := rs h.k2, k5 := rs h.k5, k6 := rs h.k6, k7 := rs h.k7, k8 := rs h.k8, k9 := rs h.k9, p0 := rp hi h.p0, p1 := rp hi h.p1, p2 := rp hi h.p2, p3 := rp hi h.p3, p4 := rp hi h.p4, p5 := rp hi h.p5, p6 := rp hi h.p6, p7 := rp hi h.p7, p8 := rp hi h.p8, p9 := rp hi h.p9, p10 := rp hi h.p10, p11 := rp hi h.p11, p12 := rp hi h.p12, p13 := rp hi h.p13, p14 := rp hi h.p14, p15 := rp hi h.p15, p16 := rp hi h.p16, p17 := rp hi h.p17, p18 := rp hi h.p18, p19 := rp hi h.p19, p20 := rp hi h.p20, p21 := fun _ => set_same (by have := h.siz; omega), p22 := rp hi h.p22, p23 := rp hi h.p23 }⟩
    · have hi : 22 < d.size := by omega
      have e20 := h.p20 (hpre _ rfl ⟨20, .data⟩ (by simp) rfl)
      have e21 := h.p21 (hpre _ rfl ⟨21, .data⟩ (by simp) rfl)
      refine wpOp_plain rfl rfl ?_
      go_simp
      exact ⟨_, rfl, { bel := h.bel, siz := (by simpa using h.siz), kp := rk h.kp, k2 := rs h.k2, k5 := rs h.k5, k6 := rs h.k6, k7 := rs h.k7, k8 := rs h.k8, k9 := rs h.k9, p0 := rp hi h.p0, p1 := rp hi h.p1, p2 := rp hi h.p2, p3 := rp hi h.p3, p4 := rp hi h.p4, p5 := rp hi h.p5, p6 := rp hi h.p6, p7 := rp hi h.p7, p8 := rp hi h.p8, p9 := rp hi h.p9, p10 := rp hi h.p10, p11 := rp hi h.p11, p12 := rp hi h.p12, p13 := rp hi h.p13, p14 := rp hi h.p14, p15 := rp hi h.p15, p16 := rp hi h.p16, p17 := rp hi h.p17, p18 := rp hi h.p18, p19 := rp hi h.p19, p20 := rp hi h.p20, p21 := rp hi h.p21, p22 := fun _ => set_same (by have := h.siz; omega), p23 := rp hi h.p23 }⟩
    · have hi : 23 < d.size := by omega
      have e22 := h.p22 (hpre _ rfl ⟨22, .data⟩ (by simp) rfl)
      refine wpOp_plain rfl rfl ?_
      go_simp
      exact ⟨_, rfl, { bel := h.bel, siz := (by simpa using h.siz), kp := rk h.kp, k2 := rs h.k2, k5 := rs h.k5, k6 := rs h.k6, k7 := rs h.k7, k8 := rs h.k8, k9 := rs h.k9, p0 := rp hi h.p0, p1 := rp hi h.p1, p2 := rp hi h.p2, p3 := rp hi h.p3, p4 := rp hi h.p4, p5 := rp hi h.p5, p6 := rp hi h.p6, p7 := rp hi h.p7, p8 := rp hi h.p8, p9 := rp hi h.p9, p10 := rp hi h.p10, p11 := rp hi h.p11, p12 := rp hi h.p12, p13 := rp hi h.p13, p14 := rp hi h.p14, p15 := rp hi h.p15, p16 := rp hi h.p16, p17 := rp hi h.p17, p18 := rp hi h.p18, p19 := rp hi h.p19, p20 := rp hi h.p20, p21 := rp hi h.p21, p22 := rp hi h.p22, p23 := fun _ => set_same (by have := h.siz; omega) }⟩
  case genda =>
    intro d a wc hd hI hall
    obtain ⟨t, rfl, h⟩ := hI
    have hdn : ∀ j, j < 24 → dn d j := fun j hj => dn_all hd hall hj
    have hd : ∀ j, (_ : j < 24 := by decide) → dn d j := fun j hj => hdn j hj
    have hfe := frame_eq [(4, _), (32, _), (33, _), (34, _), (35, _), (36, _), (37, _), (38, _), (39, _), (40, _), (41, _), (42, _), (43, _), (44, _), (45, _), (46, _), (47, _), (48, _), (49, _), (50, _), (51, _), (52, _), (53, _), (54, _)] (h.siz.trans rfl) h.kp rfl ⟨h.p23 (hd 23), h.p0 (hd 0), h.p1 (hd 1), h.p2 (hd 2), h.p3 (hd 3), h.p4 (hd 4), h.p5 (hd 5), h.p6 (hd 6), h.p7 (hd 7), h.p8 (hd 8), h.p9 (hd 9), h.p10 (hd 10), h.p11 (hd 11), h.p12 (hd 12), h.p13 (hd 13), h.p14 (hd 14), h.p15 (hd 15), h.p16 (hd 16), h.p17 (hd 17), h.p18 (hd 18), h.p19 (hd 19), h.p20 (hd 20), h.p21 (hd 21), h.p22 (hd 22), trivial⟩
    simp only [List.foldl_cons, List.foldl_nil, List.setIfInBounds_toArray, List.set_cons_succ, List.set_cons_zero] at hfe
    have hbc := h.bel
    subst hfe
    clear h hdn hd hall
    have HBF := Lib.hid (HB6.out.trans (hbc.mono (by omega)))
    clear hbc
    go_wp2_with fail
    go_ret
    exact ⟨rfl, HBF.out⟩
end Go.Proofs.YtkmimjngmfdpmaaGreatDoor
