/- SignsNames: the law's walk. Made by gen_sglaw3.py. -/
import Derived.Test.YtkmimjngmfdpmaaGreatDoorMhSgGSame
import Derived.Test.YtkmimjngmfdpmaaGreatDoorMgShelfF
import Derived.Test.YtkmimjngmfdpmaaGreatDoorMgSgWorks
namespace Go.Proofs.YtkmimjngmfdpmaaGreatDoor
open Go Go.RowKit
structure LsnR (T0 : Array Value) (W0 : World) (l : Sg.SList) (A0 : Option Addr) (c0 : Nat) (sg : Int) (tx : ByteArray) (per : Int) (xb qb : Nat) (nm : ByteArray) (er : Int) (d : Array Bool) (t : Array Value) (wc : World) : Prop where
  bel : Below W0.heap.size W0 wc
  siz : t.size = 52
  kp : ∀ i, i ∉ ([7, 8, 20, 21, 22, 23, 24, 25, 26, 27, 28, 29, 30] : List Nat) → t[i]? = T0[i]?
  k3 : t[3]? = some (.pointer (some ⟨xb, 0, none⟩))
  k5 : t[5]? = some (.pointer (some ⟨qb, 0, none⟩))
  k1 : t[1]? = some (.int .i64 sg)
  p0 : dn d 0 → t[21]? = some (.agg #[.int .i64 l.periods, .slice A0 l.signs.length c0])
  p1 : dn d 1 → ∃ v, t[22]? = some v ∧ RdSL wc wc.heap.size v l
  p2 : dn d 2 → t[23]? = some (.int .i64 sg)
  p3 : dn d 3 → t[24]? = some (.pointer (some ⟨qb, 1, none⟩))
  p4 : dn d 4 → t[25]? = some (.string tx)
  p5 : dn d 5 → t[26]? = some (.pointer (some ⟨qb, 2, none⟩))
  p6 : dn d 6 → t[27]? = some (.int .i64 per)
  p7 : dn d 7 → t[28]? = some (.tuple #[.string nm, .int .i64 er])
  p8 : dn d 8 → t[20]? = some (.tuple #[.string nm, .int .i64 er])
  p9 : dn d 9 → t[29]? = some (.string nm)
  p10 : dn d 10 → t[30]? = some (.int .i64 er)
  p11 : dn d 11 → t[7]? = some (.string nm)
  p12 : dn d 12 → t[8]? = some (.int .i64 er)
def LsnI (T0 : Array Value) (W0 : World) (l : Sg.SList) (A0 : Option Addr) (c0 : Nat) (sg : Int) (tx : ByteArray) (per : Int) (xb qb : Nat) (nm : ByteArray) (er : Int) (d : Array Bool) (a : Act) (wc : World) : Prop := ∃ t : Array Value, a = ⟨t, []⟩ ∧ LsnR T0 W0 l A0 c0 sg tx per xb qb nm er d t wc
set_option maxRecDepth 100000 in
set_option maxHeartbeats 8000000 in
theorem SignsNames_any (v : Value) (l : Sg.SList) (sg : Int) {va : Value} (q : Sg.Asked) (w : World) (hr : RdSL w w.heap.size v l) (hva : va = q.val) (hg : Glob w) (ht : GTab w) : Calls Tryz.prog 3 #[v, .int .i64 sg, va] w (RetBB true w) := by
  subst hva
  obtain ⟨kind, tx, per⟩ := q
  change Calls Tryz.prog 3 #[v, .int .i64 sg, .agg #[.int .i64 kind, .string tx, .int .i64 per]] w (RetBB true w)
  have HRL := Lib.hid fun (W : World) (hW : Below w.heap.size w W) => hr.on hW
  have HGT := Lib.hid fun (W : World) (hW : Below w.heap.size w W) => (⟨hg.below hW, ht.below hW⟩ : Glob W ∧ GTab W)
  have HWK := Lib.hid fun (W : World) (hW : Below w.heap.size w W) => works1_any W (hg.below hW) (ht.below hW)
  obtain ⟨⟨u, rfl, hgl⟩, hf⟩ := hr
  obtain ⟨A0, c0, rfl⟩ := hgl.form
  obtain ⟨W1, hW1⟩ : ∃ W1, W1 = (w.alloc (.cells #[.int .i64 l.periods, .slice A0 l.signs.length c0] 24)).alloc (.cells #[.int .i64 kind, .string tx, .int .i64 per] 26) := ⟨_, rfl⟩
  have hb1 : Below w.heap.size w W1 := by rw [hW1]; exact ((Below.refl _ _).alloc (Nat.le_refl _) _).alloc (by simp) _
  have hX : W1.heap[w.heap.size]? = some (.cells #[.int .i64 l.periods, .slice A0 l.signs.length c0] 24 (0, 0)) := by rw [hW1]; exact start_fst w _ _
  have hY : W1.heap[w.heap.size + 1]? = some (.cells #[.int .i64 kind, .string tx, .int .i64 per] 26 (0, 0)) := by rw [hW1]; exact start_res' w _ _
  have hs1 : w.heap.size + 1 < W1.heap.size := (Array.getElem?_eq_some_iff.1 hY).1
  have CX : Hid (∀ W, Below W1.heap.size W1 W → W.cell? ⟨w.heap.size, 0, none⟩ = some (.int .i64 l.periods) ∧ W.cell? ⟨w.heap.size, 1, none⟩ = some (.slice A0 l.signs.length c0) ∧ W.cell? ⟨w.heap.size + 1, 0, none⟩ = some (.int .i64 kind) ∧ W.cell? ⟨w.heap.size + 1, 1, none⟩ = some (.string tx) ∧ W.cell? ⟨w.heap.size + 1, 2, none⟩ = some (.int .i64 per)) := Lib.hid fun W hW => by
    have p := (hW.block _ (by omega)).trans hX
    have p' := (hW.block _ hs1).trans hY
    exact ⟨by simp [World.cell?, p], by simp [World.cell?, p], by simp [World.cell?, p'], by simp [World.cell?, p'], by simp [World.cell?, p']⟩
  obtain ⟨x0, x1, x2, x3, x4⟩ := CX.out W1 (Below.refl _ _)
  have HB1 := Lib.hid hb1
  have HW1 := Lib.hid hW1
  have HBG := Lib.hid (l1Big_any _ l W1 (HRL.out W1 hb1))
  have HS1 := Lib.hid (show w.heap.size < W1.heap.size from by omega)
  clear hgl hf hW1 hb1 hX hY hg ht
  cases hbig : Sg.bigV l
  case true =>
    rw [hbig] at HBG
    clear hbig
    go_enter Tryz.func3, Tryz.ntmps3
    go_upto_region 1 with fail
    rw [← HW1.out]
    go_wp2_with fail
    refine HBG.out.mono ?_
    rintro e w2 ⟨rfl, hb2⟩
    have HB2 := Lib.hid (HB1.out.trans (hb2.mono (by omega)))
    clear x0 x1 x2 x3 x4
    obtain ⟨x0, x1, x2, x3, x4⟩ := CX.out w2 hb2
    clear hb2
    go_wp2_with fail
    refine (HWK.out _ HB2.out).mono ?_
    rintro e w3 ⟨rfl, hb3⟩
    have HB3 := Lib.hid (HB2.out.trans (hb3.mono HB2.out.size))
    clear hb3
    go_wp2_with fail
    go_ret
    exact ⟨rfl, HB3.out⟩
  rw [hbig] at HBG
  by_cases hcs : 1000 < tx.size
  · have i1 : (1000 : Int) < (tx.size : Int) := by omega
    clear hbig hcs
    go_enter Tryz.func3, Tryz.ntmps3
    go_upto_region 1 with fail
    rw [← HW1.out]
    go_wp2_with fail
    refine HBG.out.mono ?_
    rintro e w2 ⟨rfl, hb2⟩
    have HB2 := Lib.hid (HB1.out.trans (hb2.mono (by omega)))
    clear x0 x1 x2 x3 x4
    obtain ⟨x0, x1, x2, x3, x4⟩ := CX.out w2 hb2
    clear hb2
    go_wp2_with fail
    refine (HWK.out _ HB2.out).mono ?_
    rintro e w3 ⟨rfl, hb3⟩
    have HB3 := Lib.hid (HB2.out.trans (hb3.mono HB2.out.size))
    clear hb3
    go_wp2_with fail
    go_ret
    exact ⟨rfl, HB3.out⟩
  have i1 : ¬ (1000 : Int) < (tx.size : Int) := by omega
  have HSM := Lib.hid (Sg.big_small hbig).1
  have HSB := Lib.hid (Sg.big_small hbig).2
  have HTX := Lib.hid (show tx.size ≤ 1000 by omega)
  clear hbig hcs
  go_enter Tryz.func3, Tryz.ntmps3
  go_upto_region 1 with fail
  rw [← HW1.out]
  go_wp2_with fail
  refine HBG.out.mono ?_
  rintro e w2 ⟨rfl, hb2⟩
  have HB2 := Lib.hid (HB1.out.trans (hb2.mono (by omega)))
  have H12 := Lib.hid hb2
  have hs2 := hb2.size
  clear hb2 x0 x1 x2 x3 x4
  obtain ⟨x0, x1, x2, x3, x4⟩ := CX.out w2 H12.out
  obtain ⟨⟨nm, er⟩, hQ⟩ : ∃ Q, Q = Sg.nameV l sg tx per := ⟨_, rfl⟩
  have HBQ := Lib.hid fun (W : World) (hW : Below w2.heap.size w2 W) (y : Value) (hy : RdSL W W.heap.size y l) => gName_any y l sg tx per W hy (Nat.le_trans HTX.out (by decide)) (HGT.out W (HB2.out.trans (hW.mono HB2.out.size))).2
  have HBR := Lib.hid fun (W : World) (hW : Below w.heap.size w W) => r1Name_any _ l sg tx per W (HRL.out W hW) HSM.out.2 (Nat.le_trans HTX.out (by decide))
  have HCP := Lib.hid fun (W : World) (hW : Below w2.heap.size w2 W) => r1Copy_any _ l W (HRL.out W (HB2.out.trans (hW.mono HB2.out.size))) HSM.out
  rw [← hQ] at HBQ HBR
  clear hQ
  obtain ⟨qb, hqb⟩ : ∃ qb, qb = w.heap.size + 1 := ⟨_, rfl⟩
  have HQB := Lib.hid hqb
  have CL := Lib.hid fun (W : World) (hW : Below w2.heap.size w2 W) => CX.out W (H12.out.trans (hW.mono hs2))
  rw [← hqb] at CL
  clear hqb
  go_upto_region 3 with fail
  rw [← HQB.out]
  refine wp_region_inv2T (fun T0 => LsnI T0 w2 l A0 c0 sg tx per w.heap.size qb nm er) (by kernel_rfl) (by kernel_rfl) ?g0a ?gstepa ?genda
  case g0a =>
    have hno : ∀ j, ¬ dn (Array.replicate 13 false) j := by
      intro j; unfold dn; by_cases hj : j < 13 <;> simp [Array.getD, hj]
    have na : ∀ {j : Nat} {Z : Prop}, dn (Array.replicate 13 false) j → Z := fun hj => absurd hj (hno _)
    exact ⟨_, rfl, { bel := (Below.refl _ _).drew, siz := rfl, kp := fun _ _ => rfl, k3 := rfl, k5 := rfl, k1 := rfl, p0 := na, p1 := fun hj => absurd hj (hno _), p2 := na, p3 := na, p4 := na, p5 := na, p6 := na, p7 := na, p8 := na, p9 := na, p10 := na, p11 := na, p12 := na }⟩
  case gstepa =>
    intro T0 d a wc i hd hI hi
    obtain ⟨hlt, hnd, hpre⟩ := mem_ready hi
    have hd' : d.size = 13 := hd
    have hin : i < 13 := hlt
    clear hi hd hlt
    obtain ⟨t, rfl, h⟩ := hI
    have hcs : i = 0 ∨ i = 1 ∨ i = 2 ∨ i = 3 ∨ i = 4 ∨ i = 5 ∨ i = 6 ∨ i = 7 ∨ i = 8 ∨ i = 9 ∨ i = 10 ∨ i = 11 ∨ i = 12 := by omega
    rcases hcs with rfl | rfl | rfl | rfl | rfl | rfl | rfl | rfl | rfl | rfl | rfl | rfl | rfl
    · have hi : 0 < d.size := by omega
      have q3 := h.k3
      obtain ⟨m0, m1, m2, m3, m4⟩ := CL.out wc h.bel
      refine wpOp_plain rfl rfl ?_
      go_simp
      exact ⟨_, rfl, { bel := h.bel, siz := (by simpa using h.siz), kp := rk h.kp, k3 := rs h.k3, k5 := rs h.k5, k1 := rs h.k1, p0 := fun _ => set_same (by have := h.siz; omega), p1 := rc hi h.p1 (fun v h2 => h2.on (Below.refl _ _)), p2 := rp hi h.p2, p3 := rp hi h.p3, p4 := rp hi h.p4, p5 := rp hi h.p5, p6 := rp hi h.p6, p7 := rp hi h.p7, p8 := rp hi h.p8, p9 := rp hi h.p9, p10 := rp hi h.p10, p11 := rp hi h.p11, p12 := rp hi h.p12 }⟩
    · have hi : 1 < d.size := by omega
      have e0 := h.p0 (hpre _ rfl ⟨0, .data⟩ (by simp) rfl)
      refine wpOp_plain rfl rfl ?_
      go_simp
      refine (HCP.out wc h.bel).mono ?_
      rintro e1 w1 ⟨y1, rfl, hq1, hb⟩
      exact ⟨_, rfl, { bel := h.bel.trans (hb.mono h.bel.size), siz := (by simpa using h.siz), kp := rk h.kp, k3 := rs h.k3, k5 := rs h.k5, k1 := rs h.k1, p0 := rp hi h.p0, p1 := fun _ => ⟨_, set_same (by have := h.siz; omega), hq1⟩, p2 := rp hi h.p2, p3 := rp hi h.p3, p4 := rp hi h.p4, p5 := rp hi h.p5, p6 := rp hi h.p6, p7 := rp hi h.p7, p8 := rp hi h.p8, p9 := rp hi h.p9, p10 := rp hi h.p10, p11 := rp hi h.p11, p12 := rp hi h.p12 }⟩
    · have hi : 2 < d.size := by omega
      have q1 := h.k1
      refine wpOp_plain rfl rfl ?_
      go_simp
      exact ⟨_, rfl, { bel := h.bel, siz := (by simpa using h.siz), kp := rk h.kp, k3 := rs h.k3, k5 := rs h.k5, k1 := rs h.k1, p0 := rp hi h.p0, p1 := rc hi h.p1 (fun v h2 => h2.on (Below.refl _ _)), p2 := fun _ => set_same (by have := h.siz; omega), p3 := rp hi h.p3, p4 := rp hi h.p4, p5 := rp hi h.p5, p6 := rp hi h.p6, p7 := rp hi h.p7, p8 := rp hi h.p8, p9 := rp hi h.p9, p10 := rp hi h.p10, p11 := rp hi h.p11, p12 := rp hi h.p12 }⟩
    · have hi : 3 < d.size := by omega
      have q5 := h.k5
      refine wpOp_plain rfl rfl ?_
      go_simp
      exact ⟨_, rfl, { bel := h.bel, siz := (by simpa using h.siz), kp := rk h.kp, k3 := rs h.k3, k5 := rs h.k5, k1 := rs h.k1, p0 := rp hi h.p0, p1 := rc hi h.p1 (fun v h2 => h2.on (Below.refl _ _)), p2 := rp hi h.p2, p3 := fun _ => set_same (by have := h.siz; omega), p4 := rp hi h.p4, p5 := rp hi h.p5, p6 := rp hi h.p6, p7 := rp hi h.p7, p8 := rp hi h.p8, p9 := rp hi h.p9, p10 := rp hi h.p10, p11 := rp hi h.p11, p12 := rp hi h.p12 }⟩
    · have hi : 4 < d.size := by omega
      have e3 := h.p3 (hpre _ rfl ⟨3, .data⟩ (by simp) rfl)
      obtain ⟨m0, m1, m2, m3, m4⟩ := CL.out wc h.bel
      refine wpOp_plain rfl rfl ?_
      go_simp
      exact ⟨_, rfl, { bel := h.bel, siz := (by simpa using h.siz), kp := rk h.kp, k3 := rs h.k3, k5 := rs h.k5, k1 := rs h.k1, p0 := rp hi h.p0, p1 := rc hi h.p1 (fun v h2 => h2.on (Below.refl _ _)), p2 := rp hi h.p2, p3 := rp hi h.p3, p4 := fun _ => set_same (by have := h.siz; omega), p5 := rp hi h.p5, p6 := rp hi h.p6, p7 := rp hi h.p7, p8 := rp hi h.p8, p9 := rp hi h.p9, p10 := rp hi h.p10, p11 := rp hi h.p11, p12 := rp hi h.p12 }⟩
    · have hi : 5 < d.size := by omega
      have q5 := h.k5
      refine wpOp_plain rfl rfl ?_
      go_simp
      exact ⟨_, rfl, { bel := h.bel, siz := (by simpa using h.siz), kp := rk h.kp, k3 := rs h.k3, k5 := rs h.k5, k1 := rs h.k1, p0 := rp hi h.p0, p1 := rc hi h.p1 (fun v h2 => h2.on (Below.refl _ _)), p2 := rp hi h.p2, p3 := rp hi h.p3, p4 := rp hi h.p4, p5 := fun _ => set_same (by have := h.siz; omega), p6 := rp hi h.p6, p7 := rp hi h.p7, p8 := rp hi h.p8, p9 := rp hi h.p9, p10 := rp hi h.p10, p11 := rp hi h.p11, p12 := rp hi h.p12 }⟩
    · have hi : 6 < d.size := by omega
      have e5 := h.p5 (hpre _ rfl ⟨5, .data⟩ (by simp) rfl)
      obtain ⟨m0, m1, m2, m3, m4⟩ := CL.out wc h.bel
      refine wpOp_plain rfl rfl ?_
      go_simp
      exact ⟨_, rfl, { bel := h.bel, siz := (by simpa using h.siz), kp := rk h.kp, k3 := rs h.k3, k5 := rs h.k5, k1 := rs h.k1, p0 := rp hi h.p0, p1 := rc hi h.p1 (fun v h2 => h2.on (Below.refl _ _)), p2 := rp hi h.p2, p3 := rp hi h.p3, p4 := rp hi h.p4, p5 := rp hi h.p5, p6 := fun _ => set_same (by have := h.siz; omega), p7 := rp hi h.p7, p8 := rp hi h.p8, p9 := rp hi h.p9, p10 := rp hi h.p10, p11 := rp hi h.p11, p12 := rp hi h.p12 }⟩
    · have hi : 7 < d.size := by omega
      obtain ⟨v1, e1, r1⟩ := h.p1 (hpre _ rfl ⟨1, .data⟩ (by simp) rfl)
      have e2 := h.p2 (hpre _ rfl ⟨2, .data⟩ (by simp) rfl)
      have e4 := h.p4 (hpre _ rfl ⟨4, .data⟩ (by simp) rfl)
      have e6 := h.p6 (hpre _ rfl ⟨6, .data⟩ (by simp) rfl)
      refine wpOp_plain rfl rfl ?_
      go_simp
      refine (HBQ.out wc h.bel v1 r1).mono ?_
      rintro e1 w1 ⟨rfl, hb⟩
      exact ⟨_, rfl, { bel := h.bel.trans (hb.mono h.bel.size), siz := (by simpa using h.siz), kp := rk h.kp, k3 := rs h.k3, k5 := rs h.k5, k1 := rs h.k1, p0 := rp hi h.p0, p1 := rc hi h.p1 (fun v h2 => h2.on hb), p2 := rp hi h.p2, p3 := rp hi h.p3, p4 := rp hi h.p4, p5 := rp hi h.p5, p6 := rp hi h.p6, p7 := fun _ => set_same (by have := h.siz; omega), p8 := rp hi h.p8, p9 := rp hi h.p9, p10 := rp hi h.p10, p11 := rp hi h.p11, p12 := rp hi h.p12 }⟩
    · have hi : 8 < d.size := by omega
      have e7 := h.p7 (hpre _ rfl ⟨7, .data⟩ (by simp) rfl)
      refine wpOp_plain rfl rfl ?_
      go_simp
      exact ⟨_, rfl, { bel := h.bel, siz := (by simpa using h.siz), kp := rk h.kp, k3 := rs h.k3, k5 := rs h.k5, k1 := rs h.k1, p0 := rp hi h.p0, p1 := rc hi h.p1 (fun v h2 => h2.on (Below.refl _ _)), p2 := rp hi h.p2, p3 := rp hi h.p3, p4 := rp hi h.p4, p5 := rp hi h.p5, p6 := rp hi h.p6, p7 := rp hi h.p7, p8 := fun _ => set_same (by have := h.siz; omega), p9 := rp hi h.p9, p10 := rp hi h.p10, p11 := rp hi h.p11, p12 := rp hi h.p12 }⟩
    · have hi : 9 < d.size := by omega
      have e8 := h.p8 (hpre _ rfl ⟨8, .data⟩ (by simp) rfl)
      refine wpOp_plain rfl rfl ?_
      go_simp
      exact ⟨_, rfl, { bel := h.bel, siz := (by simpa using h.siz), kp := rk h.kp, k3 := rs h.k3, k5 := rs h.k5, k1 := rs h.k1, p0 := rp hi h.p0, p1 := rc hi h.p1 (fun v h2 => h2.on (Below.refl _ _)), p2 := rp hi h.p2, p3 := rp hi h.p3, p4 := rp hi h.p4, p5 := rp hi h.p5, p6 := rp hi h.p6, p7 := rp hi h.p7, p8 := rp hi h.p8, p9 := fun _ => set_same (by have := h.siz; omega), p10 := rp hi h.p10, p11 := rp hi h.p11, p12 := rp hi h.p12 }⟩
    · have hi : 10 < d.size := by omega
      have e8 := h.p8 (hpre _ rfl ⟨8, .data⟩ (by simp) rfl)
      refine wpOp_plain rfl rfl ?_
      go_simp
      exact ⟨_, rfl, { bel := h.bel, siz := (by simpa using h.siz), kp := rk h.kp, k3 := rs h.k3, k5 := rs h.k5, k1 := rs h.k1, p0 := rp hi h.p0, p1 := rc hi h.p1 (fun v h2 => h2.on (Below.refl _ _)), p2 := rp hi h.p2, p3 := rp hi h.p3, p4 := rp hi h.p4, p5 := rp hi h.p5, p6 := rp hi h.p6, p7 := rp hi h.p7, p8 := rp hi h.p8, p9 := rp hi h.p9, p10 := fun _ => set_same (by have := h.siz; omega), p11 := rp hi h.p11, p12 := rp hi h.p12 }⟩
    · have hi : 11 < d.size := by omega
      have e9 := h.p9 (hpre _ rfl ⟨9, .data⟩ (by simp) rfl)
      refine wpOp_plain rfl rfl ?_
      go_simp
      exact ⟨_, rfl, { bel := h.bel, siz := (by simpa using h.siz), kp := rk h.kp, k3 := rs h.k3, k5 := rs h.k5, k1 := rs h.k1, p0 := rp hi h.p0, p1 := rc hi h.p1 (fun v h2 => h2.on (Below.refl _ _)), p2 := rp hi h.p2, p3 := rp hi h.p3, p4 := rp hi h.p4, p5 := rp hi h.p5, p6 := rp hi h.p6, p7 := rp hi h.p7, p8 := rp hi h.p8, p9 := rp hi h.p9, p10 := rp hi h.p10, p11 := fun _ => set_same (by have := h.siz; omega), p12 := rp hi h.p12 }⟩
    · have hi : 12 < d.size := by omega
      have e10 := h.p10 (hpre _ rfl ⟨10, .data⟩ (by simp) rfl)
      refine wpOp_plain rfl rfl ?_
      go_simp
      exact ⟨_, rfl, { bel := h.bel, siz := (by simpa using h.siz), kp := rk h.kp, k3 := rs h.k3, k5 := rs h.k5, k1 := rs h.k1, p0 := rp hi h.p0, p1 := rc hi h.p1 (fun v h2 => h2.on (Below.refl _ _)), p2 := rp hi h.p2, p3 := rp hi h.p3, p4 := rp hi h.p4, p5 := rp hi h.p5, p6 := rp hi h.p6, p7 := rp hi h.p7, p8 := rp hi h.p8, p9 := rp hi h.p9, p10 := rp hi h.p10, p11 := rp hi h.p11, p12 := fun _ => set_same (by have := h.siz; omega) }⟩
  case genda =>
    intro d a wc hd hI hall
    obtain ⟨t, rfl, h⟩ := hI
    have hdn : ∀ j, j < 13 → dn d j := fun j hj => dn_all hd hall hj
    have hd : ∀ j, (_ : j < 13 := by decide) → dn d j := fun j hj => hdn j hj
    obtain ⟨v1, e1, r1⟩ := h.p1 (hd 1)
    have hfe := frame_eq [(7, _), (8, _), (20, _), (21, _), (22, v1), (23, _), (24, _), (25, _), (26, _), (27, _), (28, _), (29, _), (30, _)] (h.siz.trans rfl) h.kp rfl ⟨h.p11 (hd 11), h.p12 (hd 12), h.p8 (hd 8), h.p0 (hd 0), e1, h.p2 (hd 2), h.p3 (hd 3), h.p4 (hd 4), h.p5 (hd 5), h.p6 (hd 6), h.p7 (hd 7), h.p9 (hd 9), h.p10 (hd 10), trivial⟩
    simp only [List.foldl_cons, List.foldl_nil, List.setIfInBounds_toArray, List.set_cons_succ, List.set_cons_zero] at hfe
    have hbc := h.bel
    subst hfe
    clear h hdn hd hall
    have HB3 := Lib.hid (HB2.out.trans (hbc.mono HB2.out.size))
    have hs3 := hbc.size
    have H13 := Lib.hid (H12.out.trans (hbc.mono hs2))
    clear hbc x0 x1 x2 x3 x4 r1
    rw [HQB.out]
    obtain ⟨x0, x1, x2, x3, x4⟩ := CX.out wc H13.out
    go_wp2_with fail
    refine (HBR.out wc HB3.out).mono ?_
    rintro e w4 ⟨rfl, hb4⟩
    have HB4 := Lib.hid (HB3.out.trans (hb4.mono HB3.out.size))
    clear hb4
    go_wp2_with fail
    refine (HWK.out _ HB4.out).mono ?_
    rintro e w6 ⟨rfl, hb6⟩
    have HB6 := Lib.hid (HB4.out.trans (hb6.mono HB4.out.size))
    clear hb6
    go_wp2_with fail
    go_ret
    exact ⟨rfl, HB6.out⟩
end Go.Proofs.YtkmimjngmfdpmaaGreatDoor
