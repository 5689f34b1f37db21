/- SignsBearers: the law's walk. Made by gen_sglaw6.py. -/
import Derived.Test.YtkmimjngmfdpmaaGreatDoorMhSgGSame
import Derived.Test.YtkmimjngmfdpmaaGreatDoorMgShelfF
import Derived.Test.YtkmimjngmfdpmaaGreatDoorMgSgWorks
namespace Go.Proofs.YtkmimjngmfdpmaaGreatDoor
open Go Go.RowKit
structure LsbR (T0 : Array Value) (W0 : World) (l : Sg.SList) (A0 : Option Addr) (c0 : Nat) (kind : Int) (tx : ByteArray) (per : Int) (xb qb : Nat) (Q : List Int) (er : Int) (d : Array Bool) (t : Array Value) (wc : World) : Prop where
  bel : Below W0.heap.size W0 wc
  siz : t.size = 52
  kp : ∀ i, i ∉ ([5, 6, 18, 19, 20, 21, 22, 23, 24, 25, 26, 27, 28, 29] : List Nat) → t[i]? = T0[i]?
  k2 : t[2]? = some (.pointer (some ⟨xb, 0, none⟩))
  k3 : t[3]? = some (.pointer (some ⟨qb, 0, none⟩))
  p0 : dn d 0 → t[19]? = some (.agg #[.int .i64 l.periods, .slice A0 l.signs.length c0])
  p1 : dn d 1 → ∃ v, t[20]? = some v ∧ RdSL wc wc.heap.size v l
  p2 : dn d 2 → t[21]? = some (.pointer (some ⟨qb, 0, none⟩))
  p3 : dn d 3 → t[22]? = some (.int .i64 kind)
  p4 : dn d 4 → t[23]? = some (.pointer (some ⟨qb, 1, none⟩))
  p5 : dn d 5 → t[24]? = some (.string tx)
  p6 : dn d 6 → t[25]? = some (.pointer (some ⟨qb, 2, none⟩))
  p7 : dn d 7 → t[26]? = some (.int .i64 per)
  p8 : dn d 8 → ∃ v, t[27]? = some v ∧ ∃ y, v = .tuple #[y, .int .i64 er] ∧ RdS wc wc.heap.size 1 encInt y Q
  p9 : dn d 9 → ∃ v, t[18]? = some v ∧ ∃ y, v = .tuple #[y, .int .i64 er] ∧ RdS wc wc.heap.size 1 encInt y Q
  p10 : dn d 10 → ∃ v, t[28]? = some v ∧ RdS wc wc.heap.size 1 encInt v Q
  p11 : dn d 11 → t[29]? = some (.int .i64 er)
  p12 : dn d 12 → ∃ v, t[5]? = some v ∧ RdS wc wc.heap.size 1 encInt v Q
  p13 : dn d 13 → t[6]? = some (.int .i64 er)
def LsbI (T0 : Array Value) (W0 : World) (l : Sg.SList) (A0 : Option Addr) (c0 : Nat) (kind : Int) (tx : ByteArray) (per : Int) (xb qb : Nat) (Q : List Int) (er : Int) (d : Array Bool) (a : Act) (wc : World) : Prop := ∃ t : Array Value, a = ⟨t, []⟩ ∧ LsbR T0 W0 l A0 c0 kind tx per xb qb Q er d t wc
set_option maxRecDepth 100000 in
set_option maxHeartbeats 8000000 in
theorem SignsBearers_any (v : Value) (l : Sg.SList) {va : Value} (q : Sg.Asked) (w : World) (hr : RdSL w w.heap.size v l) (hva : va = q.val) (hg : Glob w) (ht : GTab w) : Calls Tryz.prog 6 #[v, va] w (RetBB true w) := by
  subst hva
  obtain ⟨kind, tx, per⟩ := q
  change Calls Tryz.prog 6 #[v, .agg #[.int .i64 kind, .string tx, .int .i64 per]] w (RetBB true w)
  have HRL := Lib.hid fun (W : World) (hW : Below w.heap.size w W) => hr.on hW
  have HGT := Lib.hid fun (W : World) (hW : Below w.heap.size w W) => (⟨hg.below hW, ht.below hW⟩ : Glob W ∧ GTab W)
  have HWK := Lib.hid fun (W : World) (hW : Below w.heap.size w W) => works1_any W (hg.below hW) (ht.below hW)
  obtain ⟨⟨u, rfl, hgl⟩, hf⟩ := hr
  obtain ⟨A0, c0, rfl⟩ := hgl.form
  obtain ⟨W1, hW1⟩ : ∃ W1, W1 = (w.alloc (.cells #[.int .i64 l.periods, .slice A0 l.signs.length c0] 24)).alloc (.cells #[.int .i64 kind, .string tx, .int .i64 per] 26) := ⟨_, rfl⟩
  have hb1 : Below w.heap.size w W1 := by rw [hW1]; exact ((Below.refl _ _).alloc (Nat.le_refl _) _).alloc (by simp) _
  have hX : W1.heap[w.heap.size]? = some (.cells #[.int .i64 l.periods, .slice A0 l.signs.length c0] 24 (0, 0)) := by rw [hW1]; exact start_fst w _ _
  have hY : W1.heap[w.heap.size + 1]? = some (.cells #[.int .i64 kind, .string tx, .int .i64 per] 26 (0, 0)) := by rw [hW1]; exact start_res' w _ _
  have hs1 : w.heap.size + 1 < W1.heap.size := (Array.getElem?_eq_some_iff.1 hY).1
  have CX : Hid (∀ W, Below W1.heap.size W1 W → W.cell? ⟨w.heap.size, 0, none⟩ = some (.int .i64 l.periods) ∧ W.cell? ⟨w.heap.size, 1, none⟩ = some (.slice A0 l.signs.length c0) ∧ W.cell? ⟨w.heap.size + 1, 0, none⟩ = some (.int .i64 kind) ∧ W.cell? ⟨w.heap.size + 1, 1, none⟩ = some (.string tx) ∧ W.cell? ⟨w.heap.size + 1, 2, none⟩ = some (.int .i64 per)) := Lib.hid fun W hW => by
    have p := (hW.block _ (by omega)).trans hX
    have p' := (hW.block _ hs1).trans hY
    exact ⟨by simp [World.cell?, p], by simp [World.cell?, p], by simp [World.cell?, p'], by simp [World.cell?, p'], by simp [World.cell?, p']⟩
  obtain ⟨x0, x1, x2, x3, x4⟩ := CX.out W1 (Below.refl _ _)
  have HB1 := Lib.hid hb1
  have HW1 := Lib.hid hW1
  have HBG := Lib.hid (l1Big_any _ l W1 (HRL.out W1 hb1))
  have HS1 := Lib.hid (show w.heap.size < W1.heap.size from by omega)
  clear hgl hf hW1 hb1 hX hY hg ht
  cases hbig : Sg.bigV l
  case true =>
    rw [hbig] at HBG
    clear hbig
    go_enter Tryz.func6, Tryz.ntmps6
    go_upto_region 1 with fail
    rw [← HW1.out]
    go_wp2_with fail
    refine HBG.out.mono ?_
    rintro e w2 ⟨rfl, hb2⟩
    have HB2 := Lib.hid (HB1.out.trans (hb2.mono (by omega)))
    clear x0 x1 x2 x3 x4
    obtain ⟨x0, x1, x2, x3, x4⟩ := CX.out w2 hb2
    clear hb2
    go_wp2_with fail
    refine (HWK.out _ HB2.out).mono ?_
    rintro e w3 ⟨rfl, hb3⟩
    have HB3 := Lib.hid (HB2.out.trans (hb3.mono HB2.out.size))
    clear hb3
    go_wp2_with fail
    go_ret
    exact ⟨rfl, HB3.out⟩
  rw [hbig] at HBG
  by_cases hcs : 1000 < tx.size
  · have i1 : (1000 : Int) < (tx.size : Int) := by omega
    clear hbig hcs
    go_enter Tryz.func6, Tryz.ntmps6
    go_upto_region 1 with fail
    rw [← HW1.out]
    go_wp2_with fail
    refine HBG.out.mono ?_
    rintro e w2 ⟨rfl, hb2⟩
    have HB2 := Lib.hid (HB1.out.trans (hb2.mono (by omega)))
    clear x0 x1 x2 x3 x4
    obtain ⟨x0, x1, x2, x3, x4⟩ := CX.out w2 hb2
    clear hb2
    go_wp2_with fail
    refine (HWK.out _ HB2.out).mono ?_
    rintro e w3 ⟨rfl, hb3⟩
    have HB3 := Lib.hid (HB2.out.trans (hb3.mono HB2.out.size))
    clear hb3
    go_wp2_with fail
    go_ret
    exact ⟨rfl, HB3.out⟩
  have i1 : ¬ (1000 : Int) < (tx.size : Int) := by omega
  have HSM := Lib.hid (Sg.big_small hbig).1
  have HSB := Lib.hid (Sg.big_small hbig).2
  have HTX := Lib.hid (show tx.size ≤ 1000 by omega)
  clear hbig hcs
  go_enter Tryz.func6, Tryz.ntmps6
  go_upto_region 1 with fail
  rw [← HW1.out]
  go_wp2_with fail
  refine HBG.out.mono ?_
  rintro e w2 ⟨rfl, hb2⟩
  have HB2 := Lib.hid (HB1.out.trans (hb2.mono (by omega)))
  have H12 := Lib.hid hb2
  have hs2 := hb2.size
  clear hb2 x0 x1 x2 x3 x4
  obtain ⟨x0, x1, x2, x3, x4⟩ := CX.out w2 H12.out
  obtain ⟨Q, hQ⟩ : ∃ Q, Q = Sg.bearQ l kind tx per := ⟨_, rfl⟩
  obtain ⟨er, her⟩ : ∃ er, er = Sg.bearE l kind per := ⟨_, rfl⟩
  have HBQ := Lib.hid fun (W : World) (_ : Below w2.heap.size w2 W) (y : Value) (hy : RdSL W W.heap.size y l) => gBearers_any y l kind tx per W hy
  have HBR := Lib.hid fun (W : World) (hW : Below w.heap.size w W) => r1Bearers_any _ l kind tx per W (HRL.out W hW) HSM.out.2
  have HCP := Lib.hid fun (W : World) (hW : Below w2.heap.size w2 W) => r1Copy_any _ l W (HRL.out W (HB2.out.trans (hW.mono HB2.out.size))) HSM.out
  rw [← hQ, ← her] at HBQ HBR
  clear hQ her
  obtain ⟨qb, hqb⟩ : ∃ qb, qb = w.heap.size + 1 := ⟨_, rfl⟩
  have HQB := Lib.hid hqb
  have CL := Lib.hid fun (W : World) (hW : Below w2.heap.size w2 W) => CX.out W (H12.out.trans (hW.mono hs2))
  rw [← hqb] at CL
  clear hqb
  go_upto_region 3 with fail
  rw [← HQB.out]
  refine wp_region_inv2T (fun T0 => LsbI T0 w2 l A0 c0 kind tx per w.heap.size qb Q er) (by kernel_rfl) (by kernel_rfl) ?g0a ?gstepa ?genda
  case g0a =>
    have hno : ∀ j, ¬ dn (Array.replicate 14 false) j := by
      intro j; unfold dn; by_cases hj : j < 14 <;> simp [Array.getD, hj]
    have na : ∀ {j : Nat} {Z : Prop}, dn (Array.replicate 14 false) j → Z := fun hj => absurd hj (hno _)
    exact ⟨_, rfl, { bel := (Below.refl _ _).drew, siz := rfl, kp := fun _ _ => rfl, k2 := rfl, k3 := rfl, p0 := na, p1 := fun hj => absurd hj (hno _), p2 := na, p3 := na, p4 := na, p5 := na, p6 := na, p7 := na, p8 := fun hj => absurd hj (hno _), p9 := fun hj => absurd hj (hno _), p10 := fun hj => absurd hj (hno _), p11 := na, p12 := fun hj => absurd hj (hno _), p13 := na }⟩
  case gstepa =>
    intro T0 d a wc i hd hI hi
    obtain ⟨hlt, hnd, hpre⟩ := mem_ready hi
    have hd' : d.size = 14 := hd
    have hin : i < 14 := hlt
    clear hi hd hlt
    obtain ⟨t, rfl, h⟩ := hI
    have hcs : i = 0 ∨ i = 1 ∨ i = 2 ∨ i = 3 ∨ i = 4 ∨ i = 5 ∨ i = 6 ∨ i = 7 ∨ i = 8 ∨ i = 9 ∨ i = 10 ∨ i = 11 ∨ i = 12 ∨ i = 13 := by omega
    rcases hcs with rfl | rfl | rfl | rfl | rfl | rfl | rfl | rfl | rfl | rfl | rfl | rfl | rfl | rfl
    · have hi : 0 < d.size := by omega
      have q2 := h.k2
      obtain ⟨m0, m1, m2, m3, m4⟩ := CL.out wc h.bel
      refine wpOp_plain rfl rfl ?_
      go_simp
      exact ⟨_, rfl, { bel := h.bel, siz := (by simpa using h.siz), kp := rk h.kp, k2 := rs h.k2, k3 := rs h.k3, p0 := fun _ => set_same (by have := h.siz; omega), p1 := rc hi h.p1 (fun v h2 => h2.on (Below.refl _ _)), p2 := rp hi h.p2, p3 := rp hi h.p3, p4 := rp hi h.p4, p5 := rp hi h.p5, p6 := rp hi h.p6, p7 := rp hi h.p7, p8 := rc hi h.p8 (fun v h2 => h2.imp fun _ hx => ⟨hx.1, rds_on hx.2 (Below.refl _ _)⟩), p9 := rc hi h.p9 (fun v h2 => h2.imp fun _ hx => ⟨hx.1, rds_on hx.2 (Below.refl _ _)⟩), p10 := rc hi h.p10 (fun v h2 => rds_on h2 (Below.refl _ _)), p11 := rp hi h.p11, p12 := rc hi h.p12 (fun v h2 => rds_on h2 (Below.refl _ _)), p13 := rp hi h.p13 }⟩
    · have hi : 1 < d.size := by omega
      have e0 := h.p0 (hpre _ rfl ⟨0, .data⟩ (by simp) rfl)
      refine wpOp_plain rfl rfl ?_
      go_simp
      refine (HCP.out wc h.bel).mono ?_
      rintro e1 w1 ⟨y1, rfl, hq1, hb⟩
      exact ⟨_, rfl, { bel := h.bel.trans (hb.mono h.bel.size), siz := (by simpa using h.siz), kp := rk h.kp, k2 := rs h.k2, k3 := rs h.k3, p0 := rp hi h.p0, p1 := fun _ => ⟨_, set_same (by have := h.siz; omega), hq1⟩, p2 := rp hi h.p2, p3 := rp hi h.p3, p4 := rp hi h.p4, p5 := rp hi h.p5, p6 := rp hi h.p6, p7 := rp hi h.p7, p8 := rc hi h.p8 (fun v h2 => h2.imp fun _ hx => ⟨hx.1, rds_on hx.2 hb⟩), p9 := rc hi h.p9 (fun v h2 => h2.imp fun _ hx => ⟨hx.1, rds_on hx.2 hb⟩), p10 := rc hi h.p10 (fun v h2 => rds_on h2 hb), p11 := rp hi h.p11, p12 := rc hi h.p12 (fun v h2 => rds_on h2 hb), p13 := rp hi h.p13 }⟩
    · have hi : 2 < d.size := by omega
      have q3 := h.k3
      refine wpOp_plain rfl rfl ?_
      go_simp
      exact ⟨_, rfl, { bel := h.bel, siz := (by simpa using h.siz), kp := rk h.kp, k2 := rs h.k2, k3 := rs h.k3, p0 := rp hi h.p0, p1 := rc hi h.p1 (fun v h2 => h2.on (Below.refl _ _)), p2 := fun _ => set_same (by have := h.siz; omega), p3 := rp hi h.p3, p4 := rp hi h.p4, p5 := rp hi h.p5, p6 := rp hi h.p6, p7 := rp hi h.p7, p8 := rc hi h.p8 (fun v h2 => h2.imp fun _ hx => ⟨hx.1, rds_on hx.2 (Below.refl _ _)⟩), p9 := rc hi h.p9 (fun v h2 => h2.imp fun _ hx => ⟨hx.1, rds_on hx.2 (Below.refl _ _)⟩), p10 := rc hi h.p10 (fun v h2 => rds_on h2 (Below.refl _ _)), p11 := rp hi h.p11, p12 := rc hi h.p12 (fun v h2 => rds_on h2 (Below.refl _ _)), p13 := rp hi h.p13 }⟩
    · have hi : 3 < d.size := by omega
      have e2 := h.p2 (hpre _ rfl ⟨2, .data⟩ (by simp) rfl)
      obtain ⟨m0, m1, m2, m3, m4⟩ := CL.out wc h.bel
      refine wpOp_plain rfl rfl ?_
      go_simp
      exact ⟨_, rfl, { bel := h.bel, siz := (by simpa using h.siz), kp := rk h.kp, k2 := rs h.k2, k3 := rs h.k3, p0 := rp hi h.p0, p1 := rc hi h.p1 (fun v h2 => h2.on (Below.refl _ _)), p2 := rp hi h.p2, p3 := fun _ => set_same (by have := h.siz; omega), p4 := rp hi h.p4, p5 := rp hi h.p5, p6 := rp hi h.p6, p7 := rp hi h.p7, p8 := rc hi h.p8 (fun v h2 => h2.imp fun _ hx => ⟨hx.1, rds_on hx.2 (Below.refl _ _)⟩), p9 := rc hi h.p9 (fun v h2 => h2.imp fun _ hx => ⟨hx.1, rds_on hx.2 (Below.refl _ _)⟩), p10 := rc hi h.p10 (fun v h2 => rds_on h2 (Below.refl _ _)), p11 := rp hi h.p11, p12 := rc hi h.p12 (fun v h2 => rds_on h2 (Below.refl _ _)), p13 := rp hi h.p13 }⟩
    · have hi : 4 < d.size := by omega
      have q3 := h.k3
      refine wpOp_plain rfl rfl ?_
      go_simp
      exact ⟨_, rfl, { bel := h.bel, siz := (by simpa using h.siz), kp := rk h.kp, k2 := rs h.k2, k3 := rs h.k3, p0 := rp hi h.p0, p1 := rc hi h.p1 (fun v h2 => h2.on (Below.refl _ _)), p2 := rp hi h.p2, p3 := rp hi h.p3, p4 := fun _ => set_same (by have := h.siz; omega), p5 := rp hi h.p5, p6 := rp hi h.p6, p7 := rp hi h.p7, p8 := rc hi h.p8 (fun v h2 => h2.imp fun _ hx => ⟨hx.1, rds_on hx.2 (Below.refl _ _)⟩), p9 := rc hi h.p9 (fun v h2 => h2.imp fun _ hx => ⟨hx.1, rds_on hx.2 (Below.refl _ _)⟩), p10 := rc hi h.p10 (fun v h2 => rds_on h2 (Below.refl _ _)), p11 := rp hi h.p11, p12 := rc hi h.p12 (fun v h2 => rds_on h2 (Below.refl _ _)), p13 := rp hi h.p13 }⟩
    · have hi : 5 < d.size := by omega
      have e4 := h.p4 (hpre _ rfl ⟨4, .data⟩ (by simp) rfl)
      obtain ⟨m0, m1, m2, m3, m4⟩ := CL.out wc h.bel
      refine wpOp_plain rfl rfl ?_
      go_simp
      exact ⟨_, rfl, { bel := h.bel, siz := (by simpa using h.siz), kp := rk h.kp, k2 := rs h.k2, k3 := rs h.k3, p0 := rp hi h.p0, p1 := rc hi h.p1 (fun v h2 => h2.on (Below.refl _ _)), p2 := rp hi h.p2, p3 := rp hi h.p3, p4 := rp hi h.p4, p5 := fun _ => set_same (by have := h.siz; omega), p6 := rp hi h.p6, p7 := rp hi h.p7, p8 := rc hi h.p8 (fun v h2 => h2.imp fun _ hx => ⟨hx.1, rds_on hx.2 (Below.refl _ _)⟩), p9 := rc hi h.p9 (fun v h2 => h2.imp fun _ hx => ⟨hx.1, rds_on hx.2 (Below.refl _ _)⟩), p10 := rc hi h.p10 (fun v h2 => rds_on h2 (Below.refl _ _)), p11 := rp hi h.p11, p12 := rc hi h.p12 (fun v h2 => rds_on h2 (Below.refl _ _)), p13 := rp hi h.p13 }⟩
    · have hi : 6 < d.size := by omega
      have q3 := h.k3
      refine wpOp_plain rfl rfl ?_
      go_simp
      exact ⟨_, rfl, { bel := h.bel, siz := (by simpa using h.siz), kp := rk h.kp, k2 := rs h.k2, k3 := rs h.k3, p0 := rp hi h.p0, p1 := rc hi h.p1 (fun v h2 => h2.on (Below.refl _ _)), p2 := rp hi h.p2, p3 := rp hi h.p3, p4 := rp hi h.p4, p5 := rp hi h.p5, p6 := fun _ => set_same (by have := h.siz; omega), p7 := rp hi h.p7, p8 := rc hi h.p8 (fun v h2 => h2.imp fun _ hx => ⟨hx.1, rds_on hx.2 (Below.refl _ _)⟩), p9 := rc hi h.p9 (fun v h2 => h2.imp fun _ hx => ⟨hx.1, rds_on hx.2 (Below.refl _ _)⟩), p10 := rc hi h.p10 (fun v h2 => rds_on h2 (Below.refl _ _)), p11 := rp hi h.p11, p12 := rc hi h.p12 (fun v h2 => rds_on h2 (Below.refl _ _)), p13 := rp hi h.p13 }⟩
    · have hi : 7 < d.size := by omega
      have e6 := h.p6 (hpre _ rfl ⟨6, .data⟩ (by simp) rfl)
      obtain ⟨m0, m1, m2, m3, m4⟩ := CL.out wc h.bel
      refine wpOp_plain rfl rfl ?_
      go_simp
      exact ⟨_, rfl, { bel := h.bel, siz := (by simpa using h.siz), kp := rk h.kp, k2 := rs h.k2, k3 := rs h.k3, p0 := rp hi h.p0, p1 := rc hi h.p1 (fun v h2 => h2.on (Below.refl _ _)), p2 := rp hi h.p2, p3 := rp hi h.p3, p4 := rp hi h.p4, p5 := rp hi h.p5, p6 := rp hi h.p6, p7 := fun _ => set_same (by have := h.siz; omega), p8 := rc hi h.p8 (fun v h2 => h2.imp fun _ hx => ⟨hx.1, rds_on hx.2 (Below.refl _ _)⟩), p9 := rc hi h.p9 (fun v h2 => h2.imp fun _ hx => ⟨hx.1, rds_on hx.2 (Below.refl _ _)⟩), p10 := rc hi h.p10 (fun v h2 => rds_on h2 (Below.refl _ _)), p11 := rp hi h.p11, p12 := rc hi h.p12 (fun v h2 => rds_on h2 (Below.refl _ _)), p13 := rp hi h.p13 }⟩
    · have hi : 8 < d.size := by omega
      obtain ⟨v1, e1, r1⟩ := h.p1 (hpre _ rfl ⟨1, .data⟩ (by simp) rfl)
      have e3 := h.p3 (hpre _ rfl ⟨3, .data⟩ (by simp) rfl)
      have e5 := h.p5 (hpre _ rfl ⟨5, .data⟩ (by simp) rfl)
      have e7 := h.p7 (hpre _ rfl ⟨7, .data⟩ (by simp) rfl)
      refine wpOp_plain rfl rfl ?_
      go_simp
      refine (HBQ.out wc h.bel v1 r1).mono ?_
      rintro e1 w1 ⟨y1, rfl, hq1, hb⟩
      exact ⟨_, rfl, { bel := h.bel.trans (hb.mono h.bel.size), siz := (by simpa using h.siz), kp := rk h.kp, k2 := rs h.k2, k3 := rs h.k3, p0 := rp hi h.p0, p1 := rc hi h.p1 (fun v h2 => h2.on hb), p2 := rp hi h.p2, p3 := rp hi h.p3, p4 := rp hi h.p4, p5 := rp hi h.p5, p6 := rp hi h.p6, p7 := rp hi h.p7, p8 := fun _ => ⟨_, set_same (by have := h.siz; omega), _, rfl, hq1⟩, p9 := rc hi h.p9 (fun v h2 => h2.imp fun _ hx => ⟨hx.1, rds_on hx.2 hb⟩), p10 := rc hi h.p10 (fun v h2 => rds_on h2 hb), p11 := rp hi h.p11, p12 := rc hi h.p12 (fun v h2 => rds_on h2 hb), p13 := rp hi h.p13 }⟩
    · have hi : 9 < d.size := by omega
      obtain ⟨v8, e8, r8⟩ := h.p8 (hpre _ rfl ⟨8, .data⟩ (by simp) rfl)
      refine wpOp_plain rfl rfl ?_
      go_simp
      exact ⟨_, rfl, { bel := h.bel, siz := (by simpa using h.siz), kp := rk h.kp, k2 := rs h.k2, k3 := rs h.k3, p0 := rp hi h.p0, p1 := rc hi h.p1 (fun v h2 => h2.on (Below.refl _ _)), p2 := rp hi h.p2, p3 := rp hi h.p3, p4 := rp hi h.p4, p5 := rp hi h.p5, p6 := rp hi h.p6, p7 := rp hi h.p7, p8 := rc hi h.p8 (fun v h2 => h2.imp fun _ hx => ⟨hx.1, rds_on hx.2 (Below.refl _ _)⟩), p9 := fun _ => ⟨v8, set_same (by have := h.siz; omega), r8⟩, p10 := rc hi h.p10 (fun v h2 => rds_on h2 (Below.refl _ _)), p11 := rp hi h.p11, p12 := rc hi h.p12 (fun v h2 => rds_on h2 (Below.refl _ _)), p13 := rp hi h.p13 }⟩
    · have hi : 10 < d.size := by omega
      obtain ⟨v9, e9, r9⟩ := h.p9 (hpre _ rfl ⟨9, .data⟩ (by simp) rfl)
      obtain ⟨y1, rfl, hq1⟩ := r9
      refine wpOp_plain rfl rfl ?_
      go_simp
      exact ⟨_, rfl, { bel := h.bel, siz := (by simpa using h.siz), kp := rk h.kp, k2 := rs h.k2, k3 := rs h.k3, p0 := rp hi h.p0, p1 := rc hi h.p1 (fun v h2 => h2.on (Below.refl _ _)), p2 := rp hi h.p2, p3 := rp hi h.p3, p4 := rp hi h.p4, p5 := rp hi h.p5, p6 := rp hi h.p6, p7 := rp hi h.p7, p8 := rc hi h.p8 (fun v h2 => h2.imp fun _ hx => ⟨hx.1, rds_on hx.2 (Below.refl _ _)⟩), p9 := rc hi h.p9 (fun v h2 => h2.imp fun _ hx => ⟨hx.1, rds_on hx.2 (Below.refl _ _)⟩), p10 := fun _ => ⟨_, set_same (by have := h.siz; omega), hq1⟩, p11 := rp hi h.p11, p12 := rc hi h.p12 (fun v h2 => rds_on h2 (Below.refl _ _)), p13 := rp hi h.p13 }⟩
    · have hi : 11 < d.size := by omega
      obtain ⟨v9, e9, r9⟩ := h.p9 (hpre _ rfl ⟨9, .data⟩ (by simp) rfl)
      obtain ⟨y1, rfl, hq1⟩ := r9
      refine wpOp_plain rfl rfl ?_
      go_simp
      exact ⟨_, rfl, { bel := h.bel, siz := (by simpa using h.siz), kp := rk h.kp, k2 := rs h.k2, k3 := rs h.k3, p0 := rp hi h.p0, p1 := rc hi h.p1 (fun v h2 => h2.on (Below.refl _ _)), p2 := rp hi h.p2, p3 := rp hi h.p3, p4 := rp hi h.p4, p5 := rp hi h.p5, p6 := rp hi h.p6, p7 := rp hi h.p7, p8 := rc hi h.p8 (fun v h2 => h2.imp fun _ hx => ⟨hx.1, rds_on hx.2 (Below.refl _ _)⟩), p9 := rc hi h.p9 (fun v h2 => h2.imp fun _ hx => ⟨hx.1, rds_on hx.2 (Below.refl _ _)⟩), p10 := rc hi h.p10 (fun v h2 => rds_on h2 (Below.refl _ _)), p11 := fun _ => set_same (by have := h.siz; omega), p12 := rc hi h.p12 (fun v h2 => rds_on h2 (Below.refl _ _)), p13 := rp hi h.p13 }⟩
    · have hi : 12 < d.size := by omega
      obtain ⟨v10, e10, r10⟩ := h.p10 (hpre _ rfl ⟨10, .data⟩ (by simp) rfl)
      refine wpOp_plain rfl rfl ?_
      go_simp
      exact ⟨_, rfl, { bel := h.bel, siz := (by simpa using h.siz), kp := rk h.kp, k2 := rs h.k2, k3 := rs h.k3, p0 := rp hi h.p0, p1 := rc hi h.p1 (fun v h2 => h2.on (Below.refl _ _)), p2 := rp hi h.p2, p3 := rp hi h.p3, p4 := rp hi h.p4, p5 := rp hi h.p5, p6 := rp hi h.p6, p7 := rp hi h.p7, p8 := rc hi h.p8 (fun v h2 => h2.imp fun _ hx => ⟨hx.1, rds_on hx.2 (Below.refl _ _)⟩), p9 := rc hi h.p9 (fun v h2 => h2.imp fun _ hx => ⟨hx.1, rds_on hx.2 (Below.refl _ _)⟩), p10 := rc hi h.p10 (fun v h2 => rds_on h2 (Below.refl _ _)), p11 := rp hi h.p11, p12 := fun _ => ⟨v10, set_same (by have := h.siz; omega), r10⟩, p13 := rp hi h.p13 }⟩
    · have hi : 13 < d.size := by omega
      have e11 := h.p11 (hpre _ rfl ⟨11, .data⟩ (by simp) rfl)
      refine wpOp_plain rfl rfl ?_
      go_simp
      exact ⟨_, rfl, { bel := h.bel, siz := (by simpa using h.siz), kp := rk h.kp, k2 := rs h.k2, k3 := rs h.k3, p0 := rp hi h.p0, p1 := rc hi h.p1 (fun v h2 => h2.on (Below.refl _ _)), p2 := rp hi h.p2, p3 := rp hi h.p3, p4 := rp hi h.p4, p5 := rp hi h.p5, p6 := rp hi h.p6, p7 := rp hi h.p7, p8 := rc hi h.p8 (fun v h2 => h2.imp fun _ hx => ⟨hx.1, rds_on hx.2 (Below.refl _ _)⟩), p9 := rc hi h.p9 (fun v h2 => h2.imp fun _ hx => ⟨hx.1, rds_on hx.2 (Below.refl _ _)⟩), p10 := rc hi h.p10 (fun v h2 => rds_on h2 (Below.refl _ _)), p11 := rp hi h.p11, p12 := rc hi h.p12 (fun v h2 => rds_on h2 (Below.refl _ _)), p13 := fun _ => set_same (by have := h.siz; omega) }⟩
  case genda =>
    intro d a wc hd hI hall
    obtain ⟨t, rfl, h⟩ := hI
    have hdn : ∀ j, j < 14 → dn d j := fun j hj => dn_all hd hall hj
    have hd : ∀ j, (_ : j < 14 := by decide) → dn d j := fun j hj => hdn j hj
    obtain ⟨v12, e12, r12⟩ := h.p12 (hd 12)
    obtain ⟨v9, e9, r9⟩ := h.p9 (hd 9)
    obtain ⟨v1, e1, r1⟩ := h.p1 (hd 1)
    obtain ⟨v8, e8, r8⟩ := h.p8 (hd 8)
    obtain ⟨v10, e10, r10⟩ := h.p10 (hd 10)
    have hfe := frame_eq [(5, v12), (6, _), (18, v9), (19, _), (20, v1), (21, _), (22, _), (23, _), (24, _), (25, _), (26, _), (27, v8), (28, v10), (29, _)] (h.siz.trans rfl) h.kp rfl ⟨e12, h.p13 (hd 13), e9, h.p0 (hd 0), e1, h.p2 (hd 2), h.p3 (hd 3), h.p4 (hd 4), h.p5 (hd 5), h.p6 (hd 6), h.p7 (hd 7), e8, e10, h.p11 (hd 11), trivial⟩
    simp only [List.foldl_cons, List.foldl_nil, List.setIfInBounds_toArray, List.set_cons_succ, List.set_cons_zero] at hfe
    have hbc := h.bel
    subst hfe
    clear h hdn hd hall
    have HB3 := Lib.hid (HB2.out.trans (hbc.mono HB2.out.size))
    have HRA := Lib.hid r12
    have hs3 := hbc.size
    have H13 := Lib.hid (H12.out.trans (hbc.mono hs2))
    clear hbc x0 x1 x2 x3 x4 r12 r10 r9 r8 r1
    rw [HQB.out]
    obtain ⟨x0, x1, x2, x3, x4⟩ := CX.out wc H13.out
    go_wp2_with fail
    refine (HBR.out wc HB3.out).mono ?_
    rintro e w4 ⟨vb, rfl, hrb, hb4⟩
    have HB4 := Lib.hid (HB3.out.trans (hb4.mono HB3.out.size))
    have HSI := Lib.hid (l1SameInts_any _ _ _ w4 (rds_on HRA.out hb4) hrb)
    clear hb4 hrb
    go_wp2_with fail
    refine HSI.out.mono ?_
    rintro e w5 ⟨rfl, hb5⟩
    have HB5 := Lib.hid (HB4.out.trans (hb5.mono HB4.out.size))
    clear hb5
    go_wp2_with fail
    refine (HWK.out _ HB5.out).mono ?_
    rintro e w6 ⟨rfl, hb6⟩
    have HB6 := Lib.hid (HB5.out.trans (hb6.mono HB5.out.size))
    clear hb6
    go_wp2_with fail
    go_ret
    exact ⟨rfl, HB6.out⟩
end Go.Proofs.YtkmimjngmfdpmaaGreatDoor
