/- ostraconlaw05.LexiconFormats: whatever the two lexicons, the call returns true. -/
import Derived.Test.YtpmnpnlfgfleeaaGreatDoorMgRFormat
import Derived.Test.YtpmnpnlfgfleeaaGreatDoorMgFmtLaw
import Derived.Test.YtpmnpnlfgfleeaaGreatDoorMgEqual
import Derived.Test.YtpmnpnlfgfleeaaGreatDoorMgCopy
import Derived.Test.YtpmnpnlfgfleeaaGreatDoorMgWorks
import Derived.Test.YtpmnpnlfgfleeaaGreatDoorMgRegion4
namespace Go.Proofs.YtpmnpnlfgfleeaaGreatDoor
open Go Go.RowKit

theorem rdl_keep2 {w w' : World} {v : Value} {x : Lx.Lexicon} (hb : Below w.heap.size w w') (h : RdL w w.heap.size v x) : RdL w' w'.heap.size v x := (h.below hb).more hb.size
theorem RetEq.bb {p : Prop} {q : Bool} {w : World} (hq : q = true ↔ p) {e : Ending} {w' : World} (h : RetEq p w e w') : RetBB q w e w' := by
  obtain ⟨q', rfl, h1, h2⟩ := h
  have : q' = q := by rw [Bool.eq_iff_iff]; exact h1.trans hq.symm
  rw [this]
  exact ⟨rfl, h2⟩
structure FmsR (T0 : Array Value) (W0 : World) (xv yv : Value) (xb yb : Nat) (s : ByteArray) (cv : Int) (qq : Bool) (x y : Lx.Lexicon) (d : Array Bool) (t : Array Value) (wc : World) : Prop where
  bel : Below W0.heap.size W0 wc
  siz : t.size = 80
  kp : ∀ i, i ∉ ([30, 31, 32, 33, 34, 35, 36, 37, 38, 39, 40, 41, 42, 43, 44, 45, 46, 47, 48, 49, 50, 51, 52, 53, 54, 55, 56] : List Nat) → t[i]? = T0[i]?
  k2 : t[2]? = some (.pointer (some ⟨xb, 0, none⟩))
  k3 : t[3]? = some (.pointer (some ⟨yb, 0, none⟩))
  k5 : t[5]? = some (.string s)
  k7 : t[7]? = some (.string s)
  k6 : t[6]? = some (.int .i64 cv)
  k8 : t[8]? = some (.int .i64 cv)
  p0 : dn d 0 → t[30]? = some (.string s)
  p1 : dn d 1 → t[31]? = some (.string s)
  p2 : dn d 2 → t[32]? = some (.bool false)
  p3 : dn d 3 → t[33]? = some (.bool false)
  p4 : dn d 4 → t[34]? = some (.int .i64 cv)
  p5 : dn d 5 → t[35]? = some (.int .i64 cv)
  p6 : dn d 6 → t[36]? = some (.bool false)
  p7 : dn d 7 → t[37]? = some (.bool false)
  p8 : dn d 8 → t[38]? = some (.bool false)
  p9 : dn d 9 → t[39]? = some (xv)
  p10 : dn d 10 → ∃ v, t[40]? = some v ∧ RdL wc wc.heap.size v x
  p11 : dn d 11 → t[41]? = some (yv)
  p12 : dn d 12 → ∃ v, t[42]? = some v ∧ RdL wc wc.heap.size v y
  p13 : dn d 13 → t[43]? = some (.bool qq)
  p14 : dn d 14 → t[44]? = some (xv)
  p15 : dn d 15 → t[45]? = some (yv)
  p16 : dn d 16 → t[46]? = some (.bool qq)
  p17 : dn d 17 → t[47]? = some (.bool false)
  p18 : dn d 18 → t[48]? = some (.bool false)
  p19 : dn d 19 → t[49]? = some (.bool false)
  p20 : dn d 20 → t[50]? = some (xv)
  p21 : dn d 21 → ∃ v, t[51]? = some v ∧ RdL wc wc.heap.size v x
  p22 : dn d 22 → t[52]? = some (xv)
  p23 : dn d 23 → ∃ v, t[53]? = some v ∧ RdL wc wc.heap.size v x
  p24 : dn d 24 → t[54]? = some (.bool true)
  p25 : dn d 25 → t[55]? = some (.bool false)
  p26 : dn d 26 → t[56]? = some (.bool false)
def FmsI (T0 : Array Value) (W0 : World) (xv yv : Value) (xb yb : Nat) (s : ByteArray) (cv : Int) (qq : Bool) (x y : Lx.Lexicon) (d : Array Bool) (a : Act) (wc : World) : Prop := ∃ t : Array Value, a = ⟨t, []⟩ ∧ FmsR T0 W0 xv yv xb yb s cv qq x y d t wc

set_option maxRecDepth 100000 in
set_option maxHeartbeats 4000000 in
theorem LexiconFormats_any (v v' : Value) (x y : Lx.Lexicon) (w : World) (hr : RdL w w.heap.size v x) (hr' : RdL w w.heap.size v' y) (hm0 : ∃ m : Int, w.cell? ⟨0, 0, none⟩ = some (.int .i64 m)) (ht : Lib.TabIs Tryz.prog w pow10 .u64 Lib.pow10Tab) : Calls Tryz.prog 5 #[v, v'] w (RetBB true w) := by
  obtain ⟨m, hm⟩ := hm0
  have h0lt : 0 < w.heap.size := by
    refine Decidable.byContradiction fun hn => ?_
    have : w.heap[0]? = none := Array.getElem?_eq_none (by omega)
    simp [World.cell?, this] at hm
  have HR := Lib.hid hr
  have HR' := Lib.hid hr'
  obtain ⟨⟨v0, v1, v2, rfl, ⟨A0, c0, rfl, -⟩, ⟨A1, c1, rfl, -⟩, ⟨A2, c2, rfl, -⟩⟩, -, -, -⟩ := hr
  obtain ⟨⟨u0, u1, u2, rfl, ⟨B0, d0, rfl, -⟩, ⟨B1, d1, rfl, -⟩, ⟨B2, d2, rfl, -⟩⟩, -, -, -⟩ := hr'
  obtain ⟨wA, hwA⟩ : ∃ wA, wA = (w.alloc (.cells #[.slice A0 x.entries.length c0, .slice A1 x.endings.length c1, .slice A2 x.clitics.length c2] 26)).alloc (.cells #[.slice B0 y.entries.length d0, .slice B1 y.endings.length d1, .slice B2 y.clitics.length d2] 26) := ⟨_, rfl⟩
  have hba : Below w.heap.size w wA := by rw [hwA]; exact ((Below.refl _ _).alloc (Nat.le_refl _) _).alloc (by simp) _
  have hsa : w.heap.size + 1 < wA.heap.size := by rw [hwA]; simp
  have hX : wA.heap[w.heap.size]? = some (.cells #[.slice A0 x.entries.length c0, .slice A1 x.endings.length c1, .slice A2 x.clitics.length c2] 26 (0, 0)) := by rw [hwA]; exact start_fst w _ _
  have hY : wA.heap[w.heap.size + 1]? = some (.cells #[.slice B0 y.entries.length d0, .slice B1 y.endings.length d1, .slice B2 y.clitics.length d2] 26 (0, 0)) := by rw [hwA]; exact start_res' w _ _
  have CX : Hid (∀ W, Below wA.heap.size wA W → W.cell? ⟨w.heap.size, 0, none⟩ = some (.slice A0 x.entries.length c0) ∧ W.cell? ⟨w.heap.size, 1, none⟩ = some (.slice A1 x.endings.length c1) ∧ W.cell? ⟨w.heap.size, 2, none⟩ = some (.slice A2 x.clitics.length c2) ∧
      W.cell? ⟨w.heap.size + 1, 0, none⟩ = some (.slice B0 y.entries.length d0) ∧ W.cell? ⟨w.heap.size + 1, 1, none⟩ = some (.slice B1 y.endings.length d1) ∧ W.cell? ⟨w.heap.size + 1, 2, none⟩ = some (.slice B2 y.clitics.length d2)) := Lib.hid fun W hW => by
    have a := (hW.block w.heap.size (by omega)).trans hX
    have b := (hW.block (w.heap.size + 1) (by omega)).trans hY
    exact ⟨by simp [World.cell?, a], by simp [World.cell?, a], by simp [World.cell?, a], by simp [World.cell?, b], by simp [World.cell?, b], by simp [World.cell?, b]⟩
  have HBA := Lib.hid hba
  have HM : Hid (∀ W, Below wA.heap.size wA W → W.cell? ⟨0, 0, none⟩ = some (.int .i64 m)) := Lib.hid fun W hW => ((hba.trans (hW.mono hba.size)).cell (p := ⟨0, 0, none⟩) h0lt).trans hm
  have HT : Hid (∀ W, Below wA.heap.size wA W → Lib.TabIs Tryz.prog W pow10 .u64 Lib.pow10Tab) := Lib.hid fun W hW => tab_below ht (hba.trans (hW.mono hba.size))
  have HGX := Lib.hid (fun (W : World) (hW : Below wA.heap.size wA W) => rdl_keep2 (hba.trans (hW.mono hba.size)) HR.out)
  have HGY := Lib.hid (fun (W : World) (hW : Below wA.heap.size wA W) => rdl_keep2 (hba.trans (hW.mono hba.size)) HR'.out)
  have HWA := Lib.hid hwA
  clear hba hX hY hm hwA ht
  go_enter Tryz.func5, Tryz.ntmps5
  go_upto_region 1 with fail
  rw [← HWA.out]
  obtain ⟨j0, j1, j2, k0, k1, k2⟩ := CX.out wA (Below.refl _ _)
  go_wp2_with fail
  refine (Big_any _ x wA (HGX.out wA (Below.refl _ _))).mono ?_
  rintro e1 w1 ⟨rfl, hb1⟩
  have H1 := Lib.hid hb1
  clear hb1 j0 j1 j2 k0 k1 k2
  cases hbx : Lx.bigV x
  rotate_left
  · clear hbx
    go_wp2_with fail
    refine (works_any _).mono ?_
    rintro e9 w9 ⟨rfl, hb9⟩
    have H9 := Lib.hid (H1.out.trans (hb9.mono H1.out.size))
    clear hb9
    go_wp2_with fail
    go_ret
    exact ⟨rfl, HBA.out.trans (H9.out.mono HBA.out.size)⟩
  obtain ⟨j0, j1, j2, k0, k1, k2⟩ := CX.out w1 H1.out
  have HBX := Lib.hid hbx
  clear hbx
  go_wp2_with fail
  refine (Big_any _ y w1 (HGY.out w1 H1.out)).mono ?_
  rintro e2 w2 ⟨rfl, hb2⟩
  have H2 := Lib.hid (H1.out.trans (hb2.mono H1.out.size))
  clear hb2 j0 j1 j2 k0 k1 k2
  cases hby : Lx.bigV y
  rotate_left
  · clear hby
    go_wp2_with fail
    refine (works_any _).mono ?_
    rintro e9 w9 ⟨rfl, hb9⟩
    have H9 := Lib.hid (H2.out.trans (hb9.mono H2.out.size))
    clear hb9
    go_wp2_with fail
    go_ret
    exact ⟨rfl, HBA.out.trans (H9.out.mono HBA.out.size)⟩
  have hx3 : x.entries.length ≤ 1000 ∧ x.endings.length ≤ 1000 ∧ x.clitics.length ≤ 1000 := by have := HBX.out; simp [_root_.Lx.bigV] at this; omega
  have hy3 : y.entries.length ≤ 1000 ∧ y.endings.length ≤ 1000 ∧ y.clitics.length ≤ 1000 := by simp [_root_.Lx.bigV] at hby; omega
  have HCPX := Lib.hid (fun (W : World) (hW : Below wA.heap.size wA W) => rCopy_any _ x W (HGX.out W hW) hx3.1 hx3.2.1 hx3.2.2)
  have HCPY := Lib.hid (fun (W : World) (hW : Below wA.heap.size wA W) => rCopy_any _ y W (HGY.out W hW) hy3.1 hy3.2.1 hy3.2.2)
  obtain ⟨j0, j1, j2, k0, k1, k2⟩ := CX.out w2 H2.out
  clear hby hx3 hy3
  go_wp2_with fail
  refine (HCPX.out w2 H2.out).mono ?_
  rintro e3 w3 ⟨v3, rfl, hr3, hb3⟩
  have H3 := Lib.hid (H2.out.trans (hb3.mono H2.out.size))
  have HR3 := Lib.hid hr3
  clear hb3 hr3 j0 j1 j2 k0 k1 k2
  obtain ⟨cv, hcv⟩ : ∃ n, n = Lx.checkV x := ⟨_, rfl⟩
  have HF1 := Lib.hid (Format_any v3 x w3 HR3.out (HT.out w3 H3.out))
  have HF2 := Lib.hid (fun (W : World) (hW : Below wA.heap.size wA W) => rFormat_any _ x W (HGX.out W hW))
  rw [← hcv] at HF1 HF2
  have HCV := Lib.hid hcv
  clear hcv
  go_wp2_with fail
  refine HF1.out.mono ?_
  rintro e3 w3b ⟨s, rfl, hs, hb3⟩
  have H3b := Lib.hid (H3.out.trans (hb3.mono H3.out.size))
  have HSV := Lib.hid hs
  clear hb3 hs
  obtain ⟨j0, j1, j2, k0, k1, k2⟩ := CX.out w3b H3b.out
  go_wp2_with fail
  refine (HF2.out w3b H3b.out).mono ?_
  rintro e4 w4 ⟨s2, rfl, hs2, hb4⟩
  obtain rfl : s = s2 := by
    have e : s.data = s2.data := Array.toList_inj.1 (HSV.out.trans hs2.symm)
    cases s2; cases s; simp only at e; rw [e]
  have H4 := Lib.hid (H3b.out.trans (hb4.mono H3b.out.size))
  clear hb4 j0 j1 j2 k0 k1 k2 hs2
  obtain ⟨qq, hqq⟩ : ∃ q : Bool, q = true ↔ x = y := by
    by_cases h : x = y
    · exact ⟨true, by simp [h]⟩
    · exact ⟨false, by simp [h]⟩
  have CX4 : Hid (∀ W, Below w4.heap.size w4 W → W.cell? ⟨w.heap.size, 0, none⟩ = some (.slice A0 x.entries.length c0) ∧ W.cell? ⟨w.heap.size, 1, none⟩ = some (.slice A1 x.endings.length c1) ∧ W.cell? ⟨w.heap.size, 2, none⟩ = some (.slice A2 x.clitics.length c2) ∧
      W.cell? ⟨w.heap.size + 1, 0, none⟩ = some (.slice B0 y.entries.length d0) ∧ W.cell? ⟨w.heap.size + 1, 1, none⟩ = some (.slice B1 y.endings.length d1) ∧ W.cell? ⟨w.heap.size + 1, 2, none⟩ = some (.slice B2 y.clitics.length d2)) := Lib.hid fun W hW => CX.out W (H4.out.trans (hW.mono H4.out.size))
  have HCX := Lib.hid (fun (W : World) (hW : Below w4.heap.size w4 W) => HCPX.out W (H4.out.trans (hW.mono H4.out.size)))
  have HCY := Lib.hid (fun (W : World) (hW : Below w4.heap.size w4 W) => HCPY.out W (H4.out.trans (hW.mono H4.out.size)))
  have HSM : Hid (∀ (W : World) (a b : Value), RdL W W.heap.size a x → RdL W W.heap.size b y → Calls Tryz.prog 25 #[a, b] W (RetBB qq W)) := Lib.hid fun W a b h1 h2 => (Same_any a b x y W h1 h2).mono fun _ _ h => RetEq.bb hqq h
  have HSX : Hid (∀ (W : World) (a b : Value), RdL W W.heap.size a x → RdL W W.heap.size b x → Calls Tryz.prog 25 #[a, b] W (RetBB true W)) := Lib.hid fun W a b h1 h2 => (Same_any a b x x W h1 h2).mono fun _ _ h => RetEq.bb (by simp) h
  have HRS : Hid (∀ W, Below w4.heap.size w4 W → Calls Tryz.prog 21 #[.agg #[.slice A0 x.entries.length c0, .slice A1 x.endings.length c1, .slice A2 x.clitics.length c2], .agg #[.slice B0 y.entries.length d0, .slice B1 y.endings.length d1, .slice B2 y.clitics.length d2]] W (RetBB qq W)) := Lib.hid fun W hW => (rSame_any _ _ x y W (HGX.out W (H4.out.trans (hW.mono H4.out.size))) (HGY.out W (H4.out.trans (hW.mono H4.out.size)))).mono fun _ _ h => RetEq.bb hqq h
  clear hqq
  go_upto_region 5 with fail
  refine wp_region_inv2T (fun T0 => FmsI T0 w4 (.agg #[.slice A0 x.entries.length c0, .slice A1 x.endings.length c1, .slice A2 x.clitics.length c2]) (.agg #[.slice B0 y.entries.length d0, .slice B1 y.endings.length d1, .slice B2 y.clitics.length d2]) w.heap.size (w.heap.size + 1) s cv qq x y) (by kernel_rfl) (by kernel_rfl) ?g0f ?gstepf ?gendf
  case g0f =>
    have hno : ∀ j, ¬ dn (Array.replicate 27 false) j := by
      intro j; unfold dn; by_cases hj : j < 27 <;> simp [Array.getD, hj]
    have na : ∀ {j : Nat} {Z : Prop}, dn (Array.replicate 27 false) j → Z := fun hj => absurd hj (hno _)
    exact ⟨_, rfl, { bel := (Below.refl _ _).drew, siz := rfl, kp := fun _ _ => rfl, k2 := rfl, k3 := rfl, k5 := rfl, k7 := rfl, k6 := rfl, k8 := rfl, p0 := na, p1 := na, p2 := na, p3 := na, p4 := na, p5 := na, p6 := na, p7 := na, p8 := na, p9 := na, p10 := fun hj => absurd hj (hno _), p11 := na, p12 := fun hj => absurd hj (hno _), p13 := na, p14 := na, p15 := na, p16 := na, p17 := na, p18 := na, p19 := na, p20 := na, p21 := fun hj => absurd hj (hno _), p22 := na, p23 := fun hj => absurd hj (hno _), p24 := na, p25 := na, p26 := na }⟩
  case gstepf =>
    intro T0 d a wc i hd hI hi
    obtain ⟨hlt, hnd, hpre⟩ := mem_ready hi
    have hd' : d.size = 27 := hd
    have hin : i < 27 := hlt
    clear hi hd hlt
    obtain ⟨t, rfl, h⟩ := hI
    have hcs : i = 0 ∨ i = 1 ∨ i = 2 ∨ i = 3 ∨ i = 4 ∨ i = 5 ∨ i = 6 ∨ i = 7 ∨ i = 8 ∨ i = 9 ∨ i = 10 ∨ i = 11 ∨ i = 12 ∨ i = 13 ∨ i = 14 ∨ i = 15 ∨ i = 16 ∨ i = 17 ∨ i = 18 ∨ i = 19 ∨ i = 20 ∨ i = 21 ∨ i = 22 ∨ i = 23 ∨ i = 24 ∨ i = 25 ∨ i = 26 := by omega
    rcases hcs with rfl | rfl | rfl | rfl | rfl | rfl | rfl | rfl | rfl | rfl | rfl | rfl | rfl | rfl | rfl | rfl | rfl | rfl | rfl | rfl | rfl | rfl | rfl | rfl | rfl | rfl | rfl
    · have hi : 0 < d.size := by omega
      have q5 := h.k5
      refine wpOp_plain rfl rfl ?_
      go_simp
      exact ⟨_, rfl, { bel := h.bel, siz := (by simpa using h.siz), kp := rk h.kp, k2 := rs h.k2, k3 := rs h.k3, k5 := rs h.k5, k7 := rs h.k7, k6 := rs h.k6, k8 := rs h.k8, p0 := fun _ => set_same (by have := h.siz; omega), p1 := rp hi h.p1, p2 := rp hi h.p2, p3 := rp hi h.p3, p4 := rp hi h.p4, p5 := rp hi h.p5, p6 := rp hi h.p6, p7 := rp hi h.p7, p8 := rp hi h.p8, p9 := rp hi h.p9, p10 := rc hi h.p10 (fun v h2 => rdl_keep2 (Below.refl _ _) h2), p11 := rp hi h.p11, p12 := rc hi h.p12 (fun v h2 => rdl_keep2 (Below.refl _ _) h2), p13 := rp hi h.p13, p14 := rp hi h.p14, p15 := rp hi h.p15, p16 := rp hi h.p16, p17 := rp hi h.p17, p18 := rp hi h.p18, p19 := rp hi h.p19, p20 := rp hi h.p20, p21 := rc hi h.p21 (fun v h2 => rdl_keep2 (Below.refl _ _) h2), p22 := rp hi h.p22, p23 := rc hi h.p23 (fun v h2 => rdl_keep2 (Below.refl _ _) h2), p24 := rp hi h.p24, p25 := rp hi h.p25, p26 := rp hi h.p26 }⟩
    · have hi : 1 < d.size := by omega
      have q7 := h.k7
      refine wpOp_plain rfl rfl ?_
      go_simp
      exact ⟨_, rfl, { bel := h.bel, siz := (by simpa using h.siz), kp := rk h.kp, k2 := rs h.k2, k3 := rs h.k3, k5 := rs h.k5, k7 := rs h.k7, k6 := rs h.k6, k8 := rs h.k8, p0 := rp hi h.p0, p1 := fun _ => set_same (by have := h.siz; omega), p2 := rp hi h.p2, p3 := rp hi h.p3, p4 := rp hi h.p4, p5 := rp hi h.p5, p6 := rp hi h.p6, p7 := rp hi h.p7, p8 := rp hi h.p8, p9 := rp hi h.p9, p10 := rc hi h.p10 (fun v h2 => rdl_keep2 (Below.refl _ _) h2), p11 := rp hi h.p11, p12 := rc hi h.p12 (fun v h2 => rdl_keep2 (Below.refl _ _) h2), p13 := rp hi h.p13, p14 := rp hi h.p14, p15 := rp hi h.p15, p16 := rp hi h.p16, p17 := rp hi h.p17, p18 := rp hi h.p18, p19 := rp hi h.p19, p20 := rp hi h.p20, p21 := rc hi h.p21 (fun v h2 => rdl_keep2 (Below.refl _ _) h2), p22 := rp hi h.p22, p23 := rc hi h.p23 (fun v h2 => rdl_keep2 (Below.refl _ _) h2), p24 := rp hi h.p24, p25 := rp hi h.p25, p26 := rp hi h.p26 }⟩
    · have hi : 2 < d.size := by omega
      have e0 := h.p0 (hpre _ rfl ⟨0, .data⟩ (by simp) rfl)
      have e1 := h.p1 (hpre _ rfl ⟨1, .data⟩ (by simp) rfl)
      refine wpOp_plain rfl rfl ?_
      go_simp
      exact ⟨_, rfl, { bel := h.bel, siz := (by simpa using h.siz), kp := rk h.kp, k2 := rs h.k2, k3 := rs h.k3, k5 := rs h.k5, k7 := rs h.k7, k6 := rs h.k6, k8 := rs h.k8, p0 := rp hi h.p0, p1 := rp hi h.p1, p2 := fun _ => set_same (by have := h.siz; omega), p3 := rp hi h.p3, p4 := rp hi h.p4, p5 := rp hi h.p5, p6 := rp hi h.p6, p7 := rp hi h.p7, p8 := rp hi h.p8, p9 := rp hi h.p9, p10 := rc hi h.p10 (fun v h2 => rdl_keep2 (Below.refl _ _) h2), p11 := rp hi h.p11, p12 := rc hi h.p12 (fun v h2 => rdl_keep2 (Below.refl _ _) h2), p13 := rp hi h.p13, p14 := rp hi h.p14, p15 := rp hi h.p15, p16 := rp hi h.p16, p17 := rp hi h.p17, p18 := rp hi h.p18, p19 := rp hi h.p19, p20 := rp hi h.p20, p21 := rc hi h.p21 (fun v h2 => rdl_keep2 (Below.refl _ _) h2), p22 := rp hi h.p22, p23 := rc hi h.p23 (fun v h2 => rdl_keep2 (Below.refl _ _) h2), p24 := rp hi h.p24, p25 := rp hi h.p25, p26 := rp hi h.p26 }⟩
    · have hi : 3 < d.size := by omega
      have e2 := h.p2 (hpre _ rfl ⟨2, .data⟩ (by simp) rfl)
      refine wpOp_plain rfl rfl ?_
      go_simp
      exact ⟨_, rfl, { bel := h.bel, siz := (by simpa using h.siz), kp := rk h.kp, k2 := rs h.k2, k3 := rs h.k3, k5 := rs h.k5, k7 := rs h.k7, k6 := rs h.k6, k8 := rs h.k8, p0 := rp hi h.p0, p1 := rp hi h.p1, p2 := rp hi h.p2, p3 := fun _ => set_same (by have := h.siz; omega), p4 := rp hi h.p4, p5 := rp hi h.p5, p6 := rp hi h.p6, p7 := rp hi h.p7, p8 := rp hi h.p8, p9 := rp hi h.p9, p10 := rc hi h.p10 (fun v h2 => rdl_keep2 (Below.refl _ _) h2), p11 := rp hi h.p11, p12 := rc hi h.p12 (fun v h2 => rdl_keep2 (Below.refl _ _) h2), p13 := rp hi h.p13, p14 := rp hi h.p14, p15 := rp hi h.p15, p16 := rp hi h.p16, p17 := rp hi h.p17, p18 := rp hi h.p18, p19 := rp hi h.p19, p20 := rp hi h.p20, p21 := rc hi h.p21 (fun v h2 => rdl_keep2 (Below.refl _ _) h2), p22 := rp hi h.p22, p23 := rc hi h.p23 (fun v h2 => rdl_keep2 (Below.refl _ _) h2), p24 := rp hi h.p24, p25 := rp hi h.p25, p26 := rp hi h.p26 }⟩
    · have hi : 4 < d.size := by omega
      have q6 := h.k6
      refine wpOp_guard rfl (wanted_of (d := 33) rfl rfl (h.p3 (hpre _ rfl ⟨3, .guard⟩ (by simp) rfl))) ?_
      go_simp
      exact ⟨_, rfl, { bel := h.bel, siz := (by simpa using h.siz), kp := rk h.kp, k2 := rs h.k2, k3 := rs h.k3, k5 := rs h.k5, k7 := rs h.k7, k6 := rs h.k6, k8 := rs h.k8, p0 := rp hi h.p0, p1 := rp hi h.p1, p2 := rp hi h.p2, p3 := rp hi h.p3, p4 := fun _ => set_same (by have := h.siz; omega), p5 := rp hi h.p5, p6 := rp hi h.p6, p7 := rp hi h.p7, p8 := rp hi h.p8, p9 := rp hi h.p9, p10 := rc hi h.p10 (fun v h2 => rdl_keep2 (Below.refl _ _) h2), p11 := rp hi h.p11, p12 := rc hi h.p12 (fun v h2 => rdl_keep2 (Below.refl _ _) h2), p13 := rp hi h.p13, p14 := rp hi h.p14, p15 := rp hi h.p15, p16 := rp hi h.p16, p17 := rp hi h.p17, p18 := rp hi h.p18, p19 := rp hi h.p19, p20 := rp hi h.p20, p21 := rc hi h.p21 (fun v h2 => rdl_keep2 (Below.refl _ _) h2), p22 := rp hi h.p22, p23 := rc hi h.p23 (fun v h2 => rdl_keep2 (Below.refl _ _) h2), p24 := rp hi h.p24, p25 := rp hi h.p25, p26 := rp hi h.p26 }⟩
    · have hi : 5 < d.size := by omega
      have q8 := h.k8
      refine wpOp_guard rfl (wanted_of (d := 33) rfl rfl (h.p3 (hpre _ rfl ⟨3, .guard⟩ (by simp) rfl))) ?_
      go_simp
      exact ⟨_, rfl, { bel := h.bel, siz := (by simpa using h.siz), kp := rk h.kp, k2 := rs h.k2, k3 := rs h.k3, k5 := rs h.k5, k7 := rs h.k7, k6 := rs h.k6, k8 := rs h.k8, p0 := rp hi h.p0, p1 := rp hi h.p1, p2 := rp hi h.p2, p3 := rp hi h.p3, p4 := rp hi h.p4, p5 := fun _ => set_same (by have := h.siz; omega), p6 := rp hi h.p6, p7 := rp hi h.p7, p8 := rp hi h.p8, p9 := rp hi h.p9, p10 := rc hi h.p10 (fun v h2 => rdl_keep2 (Below.refl _ _) h2), p11 := rp hi h.p11, p12 := rc hi h.p12 (fun v h2 => rdl_keep2 (Below.refl _ _) h2), p13 := rp hi h.p13, p14 := rp hi h.p14, p15 := rp hi h.p15, p16 := rp hi h.p16, p17 := rp hi h.p17, p18 := rp hi h.p18, p19 := rp hi h.p19, p20 := rp hi h.p20, p21 := rc hi h.p21 (fun v h2 => rdl_keep2 (Below.refl _ _) h2), p22 := rp hi h.p22, p23 := rc hi h.p23 (fun v h2 => rdl_keep2 (Below.refl _ _) h2), p24 := rp hi h.p24, p25 := rp hi h.p25, p26 := rp hi h.p26 }⟩
    · have hi : 6 < d.size := by omega
      have e4 := h.p4 (hpre _ rfl ⟨4, .data⟩ (by simp) rfl)
      have e5 := h.p5 (hpre _ rfl ⟨5, .data⟩ (by simp) rfl)
      refine wpOp_guard rfl (wanted_of (d := 33) rfl rfl (h.p3 (hpre _ rfl ⟨3, .guard⟩ (by simp) rfl))) ?_
      go_simp
      exact ⟨_, rfl, { bel := h.bel, siz := (by simpa using h.siz), kp := rk h.kp, k2 := rs h.k2, k3 := rs h.k3, k5 := rs h.k5, k7 := rs h.k7, k6 := rs h.k6, k8 := rs h.k8, p0 := rp hi h.p0, p1 := rp hi h.p1, p2 := rp hi h.p2, p3 := rp hi h.p3, p4 := rp hi h.p4, p5 := rp hi h.p5, p6 := fun _ => set_same (by have := h.siz; omega), p7 := rp hi h.p7, p8 := rp hi h.p8, p9 := rp hi h.p9, p10 := rc hi h.p10 (fun v h2 => rdl_keep2 (Below.refl _ _) h2), p11 := rp hi h.p11, p12 := rc hi h.p12 (fun v h2 => rdl_keep2 (Below.refl _ _) h2), p13 := rp hi h.p13, p14 := rp hi h.p14, p15 := rp hi h.p15, p16 := rp hi h.p16, p17 := rp hi h.p17, p18 := rp hi h.p18, p19 := rp hi h.p19, p20 := rp hi h.p20, p21 := rc hi h.p21 (fun v h2 => rdl_keep2 (Below.refl _ _) h2), p22 := rp hi h.p22, p23 := rc hi h.p23 (fun v h2 => rdl_keep2 (Below.refl _ _) h2), p24 := rp hi h.p24, p25 := rp hi h.p25, p26 := rp hi h.p26 }⟩
    · have hi : 7 < d.size := by omega
      have e3 := h.p3 (hpre _ rfl ⟨3, .data⟩ (by simp) rfl)
      have e6 := h.p6 (hpre _ rfl ⟨6, .data⟩ (by simp) rfl)
      refine wpOp_plain rfl rfl ?_
      go_simp
      exact ⟨_, rfl, { bel := h.bel, siz := (by simpa using h.siz), kp := rk h.kp, k2 := rs h.k2, k3 := rs h.k3, k5 := rs h.k5, k7 := rs h.k7, k6 := rs h.k6, k8 := rs h.k8, p0 := rp hi h.p0, p1 := rp hi h.p1, p2 := rp hi h.p2, p3 := rp hi h.p3, p4 := rp hi h.p4, p5 := rp hi h.p5, p6 := rp hi h.p6, p7 := fun _ => set_same (by have := h.siz; omega), p8 := rp hi h.p8, p9 := rp hi h.p9, p10 := rc hi h.p10 (fun v h2 => rdl_keep2 (Below.refl _ _) h2), p11 := rp hi h.p11, p12 := rc hi h.p12 (fun v h2 => rdl_keep2 (Below.refl _ _) h2), p13 := rp hi h.p13, p14 := rp hi h.p14, p15 := rp hi h.p15, p16 := rp hi h.p16, p17 := rp hi h.p17, p18 := rp hi h.p18, p19 := rp hi h.p19, p20 := rp hi h.p20, p21 := rc hi h.p21 (fun v h2 => rdl_keep2 (Below.refl _ _) h2), p22 := rp hi h.p22, p23 := rc hi h.p23 (fun v h2 => rdl_keep2 (Below.refl _ _) h2), p24 := rp hi h.p24, p25 := rp hi h.p25, p26 := rp hi h.p26 }⟩
    · have hi : 8 < d.size := by omega
      have e7 := h.p7 (hpre _ rfl ⟨7, .data⟩ (by simp) rfl)
      refine wpOp_plain rfl rfl ?_
      go_simp
      exact ⟨_, rfl, { bel := h.bel, siz := (by simpa using h.siz), kp := rk h.kp, k2 := rs h.k2, k3 := rs h.k3, k5 := rs h.k5, k7 := rs h.k7, k6 := rs h.k6, k8 := rs h.k8, p0 := rp hi h.p0, p1 := rp hi h.p1, p2 := rp hi h.p2, p3 := rp hi h.p3, p4 := rp hi h.p4, p5 := rp hi h.p5, p6 := rp hi h.p6, p7 := rp hi h.p7, p8 := fun _ => set_same (by have := h.siz; omega), p9 := rp hi h.p9, p10 := rc hi h.p10 (fun v h2 => rdl_keep2 (Below.refl _ _) h2), p11 := rp hi h.p11, p12 := rc hi h.p12 (fun v h2 => rdl_keep2 (Below.refl _ _) h2), p13 := rp hi h.p13, p14 := rp hi h.p14, p15 := rp hi h.p15, p16 := rp hi h.p16, p17 := rp hi h.p17, p18 := rp hi h.p18, p19 := rp hi h.p19, p20 := rp hi h.p20, p21 := rc hi h.p21 (fun v h2 => rdl_keep2 (Below.refl _ _) h2), p22 := rp hi h.p22, p23 := rc hi h.p23 (fun v h2 => rdl_keep2 (Below.refl _ _) h2), p24 := rp hi h.p24, p25 := rp hi h.p25, p26 := rp hi h.p26 }⟩
    · have hi : 9 < d.size := by omega
      have q2 := h.k2
      obtain ⟨m0, m1, m2, m3, m4, m5⟩ := CX4.out wc h.bel
      refine wpOp_guard rfl (wanted_of (d := 38) rfl rfl (h.p8 (hpre _ rfl ⟨8, .guard⟩ (by simp) rfl))) ?_
      go_simp
      exact ⟨_, rfl, { bel := h.bel, siz := (by simpa using h.siz), kp := rk h.kp, k2 := rs h.k2, k3 := rs h.k3, k5 := rs h.k5, k7 := rs h.k7, k6 := rs h.k6, k8 := rs h.k8, p0 := rp hi h.p0, p1 := rp hi h.p1, p2 := rp hi h.p2, p3 := rp hi h.p3, p4 := rp hi h.p4, p5 := rp hi h.p5, p6 := rp hi h.p6, p7 := rp hi h.p7, p8 := rp hi h.p8, p9 := fun _ => set_same (by have := h.siz; omega), p10 := rc hi h.p10 (fun v h2 => rdl_keep2 (Below.refl _ _) h2), p11 := rp hi h.p11, p12 := rc hi h.p12 (fun v h2 => rdl_keep2 (Below.refl _ _) h2), p13 := rp hi h.p13, p14 := rp hi h.p14, p15 := rp hi h.p15, p16 := rp hi h.p16, p17 := rp hi h.p17, p18 := rp hi h.p18, p19 := rp hi h.p19, p20 := rp hi h.p20, p21 := rc hi h.p21 (fun v h2 => rdl_keep2 (Below.refl _ _) h2), p22 := rp hi h.p22, p23 := rc hi h.p23 (fun v h2 => rdl_keep2 (Below.refl _ _) h2), p24 := rp hi h.p24, p25 := rp hi h.p25, p26 := rp hi h.p26 }⟩
    · have hi : 10 < d.size := by omega
      have e9 := h.p9 (hpre _ rfl ⟨9, .data⟩ (by simp) rfl)
      refine wpOp_guard rfl (wanted_of (d := 38) rfl rfl (h.p8 (hpre _ rfl ⟨8, .guard⟩ (by simp) rfl))) ?_
      go_simp
      refine (HCX.out wc h.bel).mono ?_
      rintro e1 w1 ⟨v1, rfl, hr1, hb⟩
      exact ⟨_, rfl, { bel := h.bel.trans (hb.mono h.bel.size), siz := (by simpa using h.siz), kp := rk h.kp, k2 := rs h.k2, k3 := rs h.k3, k5 := rs h.k5, k7 := rs h.k7, k6 := rs h.k6, k8 := rs h.k8, p0 := rp hi h.p0, p1 := rp hi h.p1, p2 := rp hi h.p2, p3 := rp hi h.p3, p4 := rp hi h.p4, p5 := rp hi h.p5, p6 := rp hi h.p6, p7 := rp hi h.p7, p8 := rp hi h.p8, p9 := rp hi h.p9, p10 := fun _ => ⟨v1, set_same (by have := h.siz; omega), hr1⟩, p11 := rp hi h.p11, p12 := rc hi h.p12 (fun v h2 => rdl_keep2 hb h2), p13 := rp hi h.p13, p14 := rp hi h.p14, p15 := rp hi h.p15, p16 := rp hi h.p16, p17 := rp hi h.p17, p18 := rp hi h.p18, p19 := rp hi h.p19, p20 := rp hi h.p20, p21 := rc hi h.p21 (fun v h2 => rdl_keep2 hb h2), p22 := rp hi h.p22, p23 := rc hi h.p23 (fun v h2 => rdl_keep2 hb h2), p24 := rp hi h.p24, p25 := rp hi h.p25, p26 := rp hi h.p26 }⟩
    · have hi : 11 < d.size := by omega
      have q3 := h.k3
      obtain ⟨m0, m1, m2, m3, m4, m5⟩ := CX4.out wc h.bel
      refine wpOp_guard rfl (wanted_of (d := 38) rfl rfl (h.p8 (hpre _ rfl ⟨8, .guard⟩ (by simp) rfl))) ?_
      go_simp
      exact ⟨_, rfl, { bel := h.bel, siz := (by simpa using h.siz), kp := rk h.kp, k2 := rs h.k2, k3 := rs h.k3, k5 := rs h.k5, k7 := rs h.k7, k6 := rs h.k6, k8 := rs h.k8, p0 := rp hi h.p0, p1 := rp hi h.p1, p2 := rp hi h.p2, p3 := rp hi h.p3, p4 := rp hi h.p4, p5 := rp hi h.p5, p6 := rp hi h.p6, p7 := rp hi h.p7, p8 := rp hi h.p8, p9 := rp hi h.p9, p10 := rc hi h.p10 (fun v h2 => rdl_keep2 (Below.refl _ _) h2), p11 := fun _ => set_same (by have := h.siz; omega), p12 := rc hi h.p12 (fun v h2 => rdl_keep2 (Below.refl _ _) h2), p13 := rp hi h.p13, p14 := rp hi h.p14, p15 := rp hi h.p15, p16 := rp hi h.p16, p17 := rp hi h.p17, p18 := rp hi h.p18, p19 := rp hi h.p19, p20 := rp hi h.p20, p21 := rc hi h.p21 (fun v h2 => rdl_keep2 (Below.refl _ _) h2), p22 := rp hi h.p22, p23 := rc hi h.p23 (fun v h2 => rdl_keep2 (Below.refl _ _) h2), p24 := rp hi h.p24, p25 := rp hi h.p25, p26 := rp hi h.p26 }⟩
    · have hi : 12 < d.size := by omega
      have e11 := h.p11 (hpre _ rfl ⟨11, .data⟩ (by simp) rfl)
      refine wpOp_guard rfl (wanted_of (d := 38) rfl rfl (h.p8 (hpre _ rfl ⟨8, .guard⟩ (by simp) rfl))) ?_
      go_simp
      refine (HCY.out wc h.bel).mono ?_
      rintro e1 w1 ⟨v1, rfl, hr1, hb⟩
      exact ⟨_, rfl, { bel := h.bel.trans (hb.mono h.bel.size), siz := (by simpa using h.siz), kp := rk h.kp, k2 := rs h.k2, k3 := rs h.k3, k5 := rs h.k5, k7 := rs h.k7, k6 := rs h.k6, k8 := rs h.k8, p0 := rp hi h.p0, p1 := rp hi h.p1, p2 := rp hi h.p2, p3 := rp hi h.p3, p4 := rp hi h.p4, p5 := rp hi h.p5, p6 := rp hi h.p6, p7 := rp hi h.p7, p8 := rp hi h.p8, p9 := rp hi h.p9, p10 := rc hi h.p10 (fun v h2 => rdl_keep2 hb h2), p11 := rp hi h.p11, p12 := fun _ => ⟨v1, set_same (by have := h.siz; omega), hr1⟩, p13 := rp hi h.p13, p14 := rp hi h.p14, p15 := rp hi h.p15, p16 := rp hi h.p16, p17 := rp hi h.p17, p18 := rp hi h.p18, p19 := rp hi h.p19, p20 := rp hi h.p20, p21 := rc hi h.p21 (fun v h2 => rdl_keep2 hb h2), p22 := rp hi h.p22, p23 := rc hi h.p23 (fun v h2 => rdl_keep2 hb h2), p24 := rp hi h.p24, p25 := rp hi h.p25, p26 := rp hi h.p26 }⟩
    · have hi : 13 < d.size := by omega
      obtain ⟨v10, e10, r10⟩ := h.p10 (hpre _ rfl ⟨10, .data⟩ (by simp) rfl)
      obtain ⟨v12, e12, r12⟩ := h.p12 (hpre _ rfl ⟨12, .data⟩ (by simp) rfl)
      refine wpOp_guard rfl (wanted_of (d := 38) rfl rfl (h.p8 (hpre _ rfl ⟨8, .guard⟩ (by simp) rfl))) ?_
      go_simp
      refine (HSM.out wc v10 v12 r10 r12).mono ?_
      rintro e1 w1 ⟨rfl, hb⟩
      exact ⟨_, rfl, { bel := h.bel.trans (hb.mono h.bel.size), siz := (by simpa using h.siz), kp := rk h.kp, k2 := rs h.k2, k3 := rs h.k3, k5 := rs h.k5, k7 := rs h.k7, k6 := rs h.k6, k8 := rs h.k8, p0 := rp hi h.p0, p1 := rp hi h.p1, p2 := rp hi h.p2, p3 := rp hi h.p3, p4 := rp hi h.p4, p5 := rp hi h.p5, p6 := rp hi h.p6, p7 := rp hi h.p7, p8 := rp hi h.p8, p9 := rp hi h.p9, p10 := rc hi h.p10 (fun v h2 => rdl_keep2 hb h2), p11 := rp hi h.p11, p12 := rc hi h.p12 (fun v h2 => rdl_keep2 hb h2), p13 := fun _ => set_same (by have := h.siz; omega), p14 := rp hi h.p14, p15 := rp hi h.p15, p16 := rp hi h.p16, p17 := rp hi h.p17, p18 := rp hi h.p18, p19 := rp hi h.p19, p20 := rp hi h.p20, p21 := rc hi h.p21 (fun v h2 => rdl_keep2 hb h2), p22 := rp hi h.p22, p23 := rc hi h.p23 (fun v h2 => rdl_keep2 hb h2), p24 := rp hi h.p24, p25 := rp hi h.p25, p26 := rp hi h.p26 }⟩
    · have hi : 14 < d.size := by omega
      have q2 := h.k2
      obtain ⟨m0, m1, m2, m3, m4, m5⟩ := CX4.out wc h.bel
      refine wpOp_guard rfl (wanted_of (d := 38) rfl rfl (h.p8 (hpre _ rfl ⟨8, .guard⟩ (by simp) rfl))) ?_
      go_simp
      exact ⟨_, rfl, { bel := h.bel, siz := (by simpa using h.siz), kp := rk h.kp, k2 := rs h.k2, k3 := rs h.k3, k5 := rs h.k5, k7 := rs h.k7, k6 := rs h.k6, k8 := rs h.k8, p0 := rp hi h.p0, p1 := rp hi h.p1, p2 := rp hi h.p2, p3 := rp hi h.p3, p4 := rp hi h.p4, p5 := rp hi h.p5, p6 := rp hi h.p6, p7 := rp hi h.p7, p8 := rp hi h.p8, p9 := rp hi h.p9, p10 := rc hi h.p10 (fun v h2 => rdl_keep2 (Below.refl _ _) h2), p11 := rp hi h.p11, p12 := rc hi h.p12 (fun v h2 => rdl_keep2 (Below.refl _ _) h2), p13 := rp hi h.p13, p14 := fun _ => set_same (by have := h.siz; omega), p15 := rp hi h.p15, p16 := rp hi h.p16, p17 := rp hi h.p17, p18 := rp hi h.p18, p19 := rp hi h.p19, p20 := rp hi h.p20, p21 := rc hi h.p21 (fun v h2 => rdl_keep2 (Below.refl _ _) h2), p22 := rp hi h.p22, p23 := rc hi h.p23 (fun v h2 => rdl_keep2 (Below.refl _ _) h2), p24 := rp hi h.p24, p25 := rp hi h.p25, p26 := rp hi h.p26 }⟩
    · have hi : 15 < d.size := by omega
      have q3 := h.k3
      obtain ⟨m0, m1, m2, m3, m4, m5⟩ := CX4.out wc h.bel
      refine wpOp_guard rfl (wanted_of (d := 38) rfl rfl (h.p8 (hpre _ rfl ⟨8, .guard⟩ (by simp) rfl))) ?_
      go_simp
      exact ⟨_, rfl, { bel := h.bel, siz := (by simpa using h.siz), kp := rk h.kp, k2 := rs h.k2, k3 := rs h.k3, k5 := rs h.k5, k7 := rs h.k7, k6 := rs h.k6, k8 := rs h.k8, p0 := rp hi h.p0, p1 := rp hi h.p1, p2 := rp hi h.p2, p3 := rp hi h.p3, p4 := rp hi h.p4, p5 := rp hi h.p5, p6 := rp hi h.p6, p7 := rp hi h.p7, p8 := rp hi h.p8, p9 := rp hi h.p9, p10 := rc hi h.p10 (fun v h2 => rdl_keep2 (Below.refl _ _) h2), p11 := rp hi h.p11, p12 := rc hi h.p12 (fun v h2 => rdl_keep2 (Below.refl _ _) h2), p13 := rp hi h.p13, p14 := rp hi h.p14, p15 := fun _ => set_same (by have := h.siz; omega), p16 := rp hi h.p16, p17 := rp hi h.p17, p18 := rp hi h.p18, p19 := rp hi h.p19, p20 := rp hi h.p20, p21 := rc hi h.p21 (fun v h2 => rdl_keep2 (Below.refl _ _) h2), p22 := rp hi h.p22, p23 := rc hi h.p23 (fun v h2 => rdl_keep2 (Below.refl _ _) h2), p24 := rp hi h.p24, p25 := rp hi h.p25, p26 := rp hi h.p26 }⟩
    · have hi : 16 < d.size := by omega
      have e14 := h.p14 (hpre _ rfl ⟨14, .data⟩ (by simp) rfl)
      have e15 := h.p15 (hpre _ rfl ⟨15, .data⟩ (by simp) rfl)
      refine wpOp_guard rfl (wanted_of (d := 38) rfl rfl (h.p8 (hpre _ rfl ⟨8, .guard⟩ (by simp) rfl))) ?_
      go_simp
      refine (HRS.out wc h.bel).mono ?_
      rintro e1 w1 ⟨rfl, hb⟩
      exact ⟨_, rfl, { bel := h.bel.trans (hb.mono h.bel.size), siz := (by simpa using h.siz), kp := rk h.kp, k2 := rs h.k2, k3 := rs h.k3, k5 := rs h.k5, k7 := rs h.k7, k6 := rs h.k6, k8 := rs h.k8, p0 := rp hi h.p0, p1 := rp hi h.p1, p2 := rp hi h.p2, p3 := rp hi h.p3, p4 := rp hi h.p4, p5 := rp hi h.p5, p6 := rp hi h.p6, p7 := rp hi h.p7, p8 := rp hi h.p8, p9 := rp hi h.p9, p10 := rc hi h.p10 (fun v h2 => rdl_keep2 hb h2), p11 := rp hi h.p11, p12 := rc hi h.p12 (fun v h2 => rdl_keep2 hb h2), p13 := rp hi h.p13, p14 := rp hi h.p14, p15 := rp hi h.p15, p16 := fun _ => set_same (by have := h.siz; omega), p17 := rp hi h.p17, p18 := rp hi h.p18, p19 := rp hi h.p19, p20 := rp hi h.p20, p21 := rc hi h.p21 (fun v h2 => rdl_keep2 hb h2), p22 := rp hi h.p22, p23 := rc hi h.p23 (fun v h2 => rdl_keep2 hb h2), p24 := rp hi h.p24, p25 := rp hi h.p25, p26 := rp hi h.p26 }⟩
    · have hi : 17 < d.size := by omega
      have e13 := h.p13 (hpre _ rfl ⟨13, .data⟩ (by simp) rfl)
      have e16 := h.p16 (hpre _ rfl ⟨16, .data⟩ (by simp) rfl)
      refine wpOp_guard rfl (wanted_of (d := 38) rfl rfl (h.p8 (hpre _ rfl ⟨8, .guard⟩ (by simp) rfl))) ?_
      go_simp
      try simp only [bne_self_eq_false]
      exact ⟨_, rfl, { bel := h.bel, siz := (by simpa using h.siz), kp := rk h.kp, k2 := rs h.k2, k3 := rs h.k3, k5 := rs h.k5, k7 := rs h.k7, k6 := rs h.k6, k8 := rs h.k8, p0 := rp hi h.p0, p1 := rp hi h.p1, p2 := rp hi h.p2, p3 := rp hi h.p3, p4 := rp hi h.p4, p5 := rp hi h.p5, p6 := rp hi h.p6, p7 := rp hi h.p7, p8 := rp hi h.p8, p9 := rp hi h.p9, p10 := rc hi h.p10 (fun v h2 => rdl_keep2 (Below.refl _ _) h2), p11 := rp hi h.p11, p12 := rc hi h.p12 (fun v h2 => rdl_keep2 (Below.refl _ _) h2), p13 := rp hi h.p13, p14 := rp hi h.p14, p15 := rp hi h.p15, p16 := rp hi h.p16, p17 := fun _ => set_same (by have := h.siz; omega), p18 := rp hi h.p18, p19 := rp hi h.p19, p20 := rp hi h.p20, p21 := rc hi h.p21 (fun v h2 => rdl_keep2 (Below.refl _ _) h2), p22 := rp hi h.p22, p23 := rc hi h.p23 (fun v h2 => rdl_keep2 (Below.refl _ _) h2), p24 := rp hi h.p24, p25 := rp hi h.p25, p26 := rp hi h.p26 }⟩
    · have hi : 18 < d.size := by omega
      have e8 := h.p8 (hpre _ rfl ⟨8, .data⟩ (by simp) rfl)
      have e17 := h.p17 (hpre _ rfl ⟨17, .data⟩ (by simp) rfl)
      refine wpOp_plain rfl rfl ?_
      go_simp
      exact ⟨_, rfl, { bel := h.bel, siz := (by simpa using h.siz), kp := rk h.kp, k2 := rs h.k2, k3 := rs h.k3, k5 := rs h.k5, k7 := rs h.k7, k6 := rs h.k6, k8 := rs h.k8, p0 := rp hi h.p0, p1 := rp hi h.p1, p2 := rp hi h.p2, p3 := rp hi h.p3, p4 := rp hi h.p4, p5 := rp hi h.p5, p6 := rp hi h.p6, p7 := rp hi h.p7, p8 := rp hi h.p8, p9 := rp hi h.p9, p10 := rc hi h.p10 (fun v h2 => rdl_keep2 (Below.refl _ _) h2), p11 := rp hi h.p11, p12 := rc hi h.p12 (fun v h2 => rdl_keep2 (Below.refl _ _) h2), p13 := rp hi h.p13, p14 := rp hi h.p14, p15 := rp hi h.p15, p16 := rp hi h.p16, p17 := rp hi h.p17, p18 := fun _ => set_same (by have := h.siz; omega), p19 := rp hi h.p19, p20 := rp hi h.p20, p21 := rc hi h.p21 (fun v h2 => rdl_keep2 (Below.refl _ _) h2), p22 := rp hi h.p22, p23 := rc hi h.p23 (fun v h2 => rdl_keep2 (Below.refl _ _) h2), p24 := rp hi h.p24, p25 := rp hi h.p25, p26 := rp hi h.p26 }⟩
    · have hi : 19 < d.size := by omega
      have e18 := h.p18 (hpre _ rfl ⟨18, .data⟩ (by simp) rfl)
      refine wpOp_plain rfl rfl ?_
      go_simp
      exact ⟨_, rfl, { bel := h.bel, siz := (by simpa using h.siz), kp := rk h.kp, k2 := rs h.k2, k3 := rs h.k3, k5 := rs h.k5, k7 := rs h.k7, k6 := rs h.k6, k8 := rs h.k8, p0 := rp hi h.p0, p1 := rp hi h.p1, p2 := rp hi h.p2, p3 := rp hi h.p3, p4 := rp hi h.p4, p5 := rp hi h.p5, p6 := rp hi h.p6, p7 := rp hi h.p7, p8 := rp hi h.p8, p9 := rp hi h.p9, p10 := rc hi h.p10 (fun v h2 => rdl_keep2 (Below.refl _ _) h2), p11 := rp hi h.p11, p12 := rc hi h.p12 (fun v h2 => rdl_keep2 (Below.refl _ _) h2), p13 := rp hi h.p13, p14 := rp hi h.p14, p15 := rp hi h.p15, p16 := rp hi h.p16, p17 := rp hi h.p17, p18 := rp hi h.p18, p19 := fun _ => set_same (by have := h.siz; omega), p20 := rp hi h.p20, p21 := rc hi h.p21 (fun v h2 => rdl_keep2 (Below.refl _ _) h2), p22 := rp hi h.p22, p23 := rc hi h.p23 (fun v h2 => rdl_keep2 (Below.refl _ _) h2), p24 := rp hi h.p24, p25 := rp hi h.p25, p26 := rp hi h.p26 }⟩
    · have hi : 20 < d.size := by omega
      have q2 := h.k2
      obtain ⟨m0, m1, m2, m3, m4, m5⟩ := CX4.out wc h.bel
      refine wpOp_guard rfl (wanted_of (d := 49) rfl rfl (h.p19 (hpre _ rfl ⟨19, .guard⟩ (by simp) rfl))) ?_
      go_simp
      exact ⟨_, rfl, { bel := h.bel, siz := (by simpa using h.siz), kp := rk h.kp, k2 := rs h.k2, k3 := rs h.k3, k5 := rs h.k5, k7 := rs h.k7, k6 := rs h.k6, k8 := rs h.k8, p0 := rp hi h.p0, p1 := rp hi h.p1, p2 := rp hi h.p2, p3 := rp hi h.p3, p4 := rp hi h.p4, p5 := rp hi h.p5, p6 := rp hi h.p6, p7 := rp hi h.p7, p8 := rp hi h.p8, p9 := rp hi h.p9, p10 := rc hi h.p10 (fun v h2 => rdl_keep2 (Below.refl _ _) h2), p11 := rp hi h.p11, p12 := rc hi h.p12 (fun v h2 => rdl_keep2 (Below.refl _ _) h2), p13 := rp hi h.p13, p14 := rp hi h.p14, p15 := rp hi h.p15, p16 := rp hi h.p16, p17 := rp hi h.p17, p18 := rp hi h.p18, p19 := rp hi h.p19, p20 := fun _ => set_same (by have := h.siz; omega), p21 := rc hi h.p21 (fun v h2 => rdl_keep2 (Below.refl _ _) h2), p22 := rp hi h.p22, p23 := rc hi h.p23 (fun v h2 => rdl_keep2 (Below.refl _ _) h2), p24 := rp hi h.p24, p25 := rp hi h.p25, p26 := rp hi h.p26 }⟩
    · have hi : 21 < d.size := by omega
      have e20 := h.p20 (hpre _ rfl ⟨20, .data⟩ (by simp) rfl)
      refine wpOp_guard rfl (wanted_of (d := 49) rfl rfl (h.p19 (hpre _ rfl ⟨19, .guard⟩ (by simp) rfl))) ?_
      go_simp
      refine (HCX.out wc h.bel).mono ?_
      rintro e1 w1 ⟨v1, rfl, hr1, hb⟩
      exact ⟨_, rfl, { bel := h.bel.trans (hb.mono h.bel.size), siz := (by simpa using h.siz), kp := rk h.kp, k2 := rs h.k2, k3 := rs h.k3, k5 := rs h.k5, k7 := rs h.k7, k6 := rs h.k6, k8 := rs h.k8, p0 := rp hi h.p0, p1 := rp hi h.p1, p2 := rp hi h.p2, p3 := rp hi h.p3, p4 := rp hi h.p4, p5 := rp hi h.p5, p6 := rp hi h.p6, p7 := rp hi h.p7, p8 := rp hi h.p8, p9 := rp hi h.p9, p10 := rc hi h.p10 (fun v h2 => rdl_keep2 hb h2), p11 := rp hi h.p11, p12 := rc hi h.p12 (fun v h2 => rdl_keep2 hb h2), p13 := rp hi h.p13, p14 := rp hi h.p14, p15 := rp hi h.p15, p16 := rp hi h.p16, p17 := rp hi h.p17, p18 := rp hi h.p18, p19 := rp hi h.p19, p20 := rp hi h.p20, p21 := fun _ => ⟨v1, set_same (by have := h.siz; omega), hr1⟩, p22 := rp hi h.p22, p23 := rc hi h.p23 (fun v h2 => rdl_keep2 hb h2), p24 := rp hi h.p24, p25 := rp hi h.p25, p26 := rp hi h.p26 }⟩
    · have hi : 22 < d.size := by omega
      have q2 := h.k2
      obtain ⟨m0, m1, m2, m3, m4, m5⟩ := CX4.out wc h.bel
      refine wpOp_guard rfl (wanted_of (d := 49) rfl rfl (h.p19 (hpre _ rfl ⟨19, .guard⟩ (by simp) rfl))) ?_
      go_simp
      exact ⟨_, rfl, { bel := h.bel, siz := (by simpa using h.siz), kp := rk h.kp, k2 := rs h.k2, k3 := rs h.k3, k5 := rs h.k5, k7 := rs h.k7, k6 := rs h.k6, k8 := rs h.k8, p0 := rp hi h.p0, p1 := rp hi h.p1, p2 := rp hi h.p2, p3 := rp hi h.p3, p4 := rp hi h.p4, p5 := rp hi h.p5, p6 := rp hi h.p6, p7 := rp hi h.p7, p8 := rp hi h.p8, p9 := rp hi h.p9, p10 := rc hi h.p10 (fun v h2 => rdl_keep2 (Below.refl _ _) h2), p11 := rp hi h.p11, p12 := rc hi h.p12 (fun v h2 => rdl_keep2 (Below.refl _ _) h2), p13 := rp hi h.p13, p14 := rp hi h.p14, p15 := rp hi h.p15, p16 := rp hi h.p16, p17 := rp hi h.p17, p18 := rp hi h.p18, p19 := rp hi h.p19, p20 := rp hi h.p20, p21 := rc hi h.p21 (fun v h2 => rdl_keep2 (Below.refl _ _) h2), p22 := fun _ => set_same (by have := h.siz; omega), p23 := rc hi h.p23 (fun v h2 => rdl_keep2 (Below.refl _ _) h2), p24 := rp hi h.p24, p25 := rp hi h.p25, p26 := rp hi h.p26 }⟩
    · have hi : 23 < d.size := by omega
      have e22 := h.p22 (hpre _ rfl ⟨22, .data⟩ (by simp) rfl)
      refine wpOp_guard rfl (wanted_of (d := 49) rfl rfl (h.p19 (hpre _ rfl ⟨19, .guard⟩ (by simp) rfl))) ?_
      go_simp
      refine (HCX.out wc h.bel).mono ?_
      rintro e1 w1 ⟨v1, rfl, hr1, hb⟩
      exact ⟨_, rfl, { bel := h.bel.trans (hb.mono h.bel.size), siz := (by simpa using h.siz), kp := rk h.kp, k2 := rs h.k2, k3 := rs h.k3, k5 := rs h.k5, k7 := rs h.k7, k6 := rs h.k6, k8 := rs h.k8, p0 := rp hi h.p0, p1 := rp hi h.p1, p2 := rp hi h.p2, p3 := rp hi h.p3, p4 := rp hi h.p4, p5 := rp hi h.p5, p6 := rp hi h.p6, p7 := rp hi h.p7, p8 := rp hi h.p8, p9 := rp hi h.p9, p10 := rc hi h.p10 (fun v h2 => rdl_keep2 hb h2), p11 := rp hi h.p11, p12 := rc hi h.p12 (fun v h2 => rdl_keep2 hb h2), p13 := rp hi h.p13, p14 := rp hi h.p14, p15 := rp hi h.p15, p16 := rp hi h.p16, p17 := rp hi h.p17, p18 := rp hi h.p18, p19 := rp hi h.p19, p20 := rp hi h.p20, p21 := rc hi h.p21 (fun v h2 => rdl_keep2 hb h2), p22 := rp hi h.p22, p23 := fun _ => ⟨v1, set_same (by have := h.siz; omega), hr1⟩, p24 := rp hi h.p24, p25 := rp hi h.p25, p26 := rp hi h.p26 }⟩
    · have hi : 24 < d.size := by omega
      obtain ⟨v21, e21, r21⟩ := h.p21 (hpre _ rfl ⟨21, .data⟩ (by simp) rfl)
      obtain ⟨v23, e23, r23⟩ := h.p23 (hpre _ rfl ⟨23, .data⟩ (by simp) rfl)
      refine wpOp_guard rfl (wanted_of (d := 49) rfl rfl (h.p19 (hpre _ rfl ⟨19, .guard⟩ (by simp) rfl))) ?_
      go_simp
      refine (HSX.out wc v21 v23 r21 r23).mono ?_
      rintro e1 w1 ⟨rfl, hb⟩
      exact ⟨_, rfl, { bel := h.bel.trans (hb.mono h.bel.size), siz := (by simpa using h.siz), kp := rk h.kp, k2 := rs h.k2, k3 := rs h.k3, k5 := rs h.k5, k7 := rs h.k7, k6 := rs h.k6, k8 := rs h.k8, p0 := rp hi h.p0, p1 := rp hi h.p1, p2 := rp hi h.p2, p3 := rp hi h.p3, p4 := rp hi h.p4, p5 := rp hi h.p5, p6 := rp hi h.p6, p7 := rp hi h.p7, p8 := rp hi h.p8, p9 := rp hi h.p9, p10 := rc hi h.p10 (fun v h2 => rdl_keep2 hb h2), p11 := rp hi h.p11, p12 := rc hi h.p12 (fun v h2 => rdl_keep2 hb h2), p13 := rp hi h.p13, p14 := rp hi h.p14, p15 := rp hi h.p15, p16 := rp hi h.p16, p17 := rp hi h.p17, p18 := rp hi h.p18, p19 := rp hi h.p19, p20 := rp hi h.p20, p21 := rc hi h.p21 (fun v h2 => rdl_keep2 hb h2), p22 := rp hi h.p22, p23 := rc hi h.p23 (fun v h2 => rdl_keep2 hb h2), p24 := fun _ => set_same (by have := h.siz; omega), p25 := rp hi h.p25, p26 := rp hi h.p26 }⟩
    · have hi : 25 < d.size := by omega
      have e24 := h.p24 (hpre _ rfl ⟨24, .data⟩ (by simp) rfl)
      refine wpOp_guard rfl (wanted_of (d := 49) rfl rfl (h.p19 (hpre _ rfl ⟨19, .guard⟩ (by simp) rfl))) ?_
      go_simp
      exact ⟨_, rfl, { bel := h.bel, siz := (by simpa using h.siz), kp := rk h.kp, k2 := rs h.k2, k3 := rs h.k3, k5 := rs h.k5, k7 := rs h.k7, k6 := rs h.k6, k8 := rs h.k8, p0 := rp hi h.p0, p1 := rp hi h.p1, p2 := rp hi h.p2, p3 := rp hi h.p3, p4 := rp hi h.p4, p5 := rp hi h.p5, p6 := rp hi h.p6, p7 := rp hi h.p7, p8 := rp hi h.p8, p9 := rp hi h.p9, p10 := rc hi h.p10 (fun v h2 => rdl_keep2 (Below.refl _ _) h2), p11 := rp hi h.p11, p12 := rc hi h.p12 (fun v h2 => rdl_keep2 (Below.refl _ _) h2), p13 := rp hi h.p13, p14 := rp hi h.p14, p15 := rp hi h.p15, p16 := rp hi h.p16, p17 := rp hi h.p17, p18 := rp hi h.p18, p19 := rp hi h.p19, p20 := rp hi h.p20, p21 := rc hi h.p21 (fun v h2 => rdl_keep2 (Below.refl _ _) h2), p22 := rp hi h.p22, p23 := rc hi h.p23 (fun v h2 => rdl_keep2 (Below.refl _ _) h2), p24 := rp hi h.p24, p25 := fun _ => set_same (by have := h.siz; omega), p26 := rp hi h.p26 }⟩
    · have hi : 26 < d.size := by omega
      have e19 := h.p19 (hpre _ rfl ⟨19, .data⟩ (by simp) rfl)
      have e25 := h.p25 (hpre _ rfl ⟨25, .data⟩ (by simp) rfl)
      refine wpOp_plain rfl rfl ?_
      go_simp
      exact ⟨_, rfl, { bel := h.bel, siz := (by simpa using h.siz), kp := rk h.kp, k2 := rs h.k2, k3 := rs h.k3, k5 := rs h.k5, k7 := rs h.k7, k6 := rs h.k6, k8 := rs h.k8, p0 := rp hi h.p0, p1 := rp hi h.p1, p2 := rp hi h.p2, p3 := rp hi h.p3, p4 := rp hi h.p4, p5 := rp hi h.p5, p6 := rp hi h.p6, p7 := rp hi h.p7, p8 := rp hi h.p8, p9 := rp hi h.p9, p10 := rc hi h.p10 (fun v h2 => rdl_keep2 (Below.refl _ _) h2), p11 := rp hi h.p11, p12 := rc hi h.p12 (fun v h2 => rdl_keep2 (Below.refl _ _) h2), p13 := rp hi h.p13, p14 := rp hi h.p14, p15 := rp hi h.p15, p16 := rp hi h.p16, p17 := rp hi h.p17, p18 := rp hi h.p18, p19 := rp hi h.p19, p20 := rp hi h.p20, p21 := rc hi h.p21 (fun v h2 => rdl_keep2 (Below.refl _ _) h2), p22 := rp hi h.p22, p23 := rc hi h.p23 (fun v h2 => rdl_keep2 (Below.refl _ _) h2), p24 := rp hi h.p24, p25 := rp hi h.p25, p26 := fun _ => set_same (by have := h.siz; omega) }⟩
  case gendf =>
    intro d a wc hd hI hall
    obtain ⟨t, rfl, h⟩ := hI
    have hdn : ∀ j, j < 27 → dn d j := fun j hj => dn_all hd hall hj
    have hd : ∀ j, (_ : j < 27 := by decide) → dn d j := fun j hj => hdn j hj
    obtain ⟨v10, e10, r10⟩ := h.p10 (hd 10)
    obtain ⟨v12, e12, r12⟩ := h.p12 (hd 12)
    obtain ⟨v21, e21, r21⟩ := h.p21 (hd 21)
    obtain ⟨v23, e23, r23⟩ := h.p23 (hd 23)
    have hfe := frame_eq [(30, _), (31, _), (32, _), (33, _), (34, _), (35, _), (36, _), (37, _), (38, _), (39, _), (40, v10), (41, _), (42, v12), (43, _), (44, _), (45, _), (46, _), (47, _), (48, _), (49, _), (50, _), (51, v21), (52, _), (53, v23), (54, _), (55, _), (56, _)] (h.siz.trans rfl) h.kp rfl ⟨h.p0 (hd 0), h.p1 (hd 1), h.p2 (hd 2), h.p3 (hd 3), h.p4 (hd 4), h.p5 (hd 5), h.p6 (hd 6), h.p7 (hd 7), h.p8 (hd 8), h.p9 (hd 9), e10, h.p11 (hd 11), e12, h.p13 (hd 13), h.p14 (hd 14), h.p15 (hd 15), h.p16 (hd 16), h.p17 (hd 17), h.p18 (hd 18), h.p19 (hd 19), h.p20 (hd 20), e21, h.p22 (hd 22), e23, h.p24 (hd 24), h.p25 (hd 25), h.p26 (hd 26), trivial⟩
    simp only [List.foldl_cons, List.foldl_nil, List.setIfInBounds_toArray, List.set_cons_succ, List.set_cons_zero] at hfe
    have hbc := h.bel
    subst hfe
    clear h hdn hd hall
    have hbc' := hbc
    clear hbc
    rename World => w5
    have H5 := Lib.hid (H4.out.trans (hbc'.mono H4.out.size))
    have HM5 := Lib.hid (HM.out w5 H5.out)
    clear hbc'
    by_cases hz : cv = 0
    · have hpf := Lx.parse_format (x := x) (HCV.out.symm.trans hz)
      have hss : s.size ≤ 100000 := by
        have q1 : s.data.toList.length = s.size := rfl
        rw [HSV.out] at q1
        have q2 := hpf.2
        omega
      have HPS := Lib.hid (Parse_any s m w5 HM5.out (by have := H5.out.size; omega) hss)
      rw [HSV.out, hpf.1] at HPS
      clear hpf
      go_wp2_with fail
      refine HPS.out.mono ?_
      rintro e6 w6 ⟨v6, rfl, hr6, hb6⟩
      have HR6 := Lib.hid hr6
      have H6 := Lib.hid (H5.out.trans (hb6.mono H5.out.size))
      obtain ⟨⟨u0, u1, u2, rfl, ⟨D0, g0, rfl, -⟩, ⟨D1, g1, rfl, -⟩, ⟨D2, g2, rfl, -⟩⟩, -, -, -⟩ := hr6
      clear hb6
      go_upto_region 10 with fail
      obtain ⟨w7, hw7⟩ : ∃ w7, w7 = w6.alloc (.cells #[.slice D0 x.entries.length g0, .slice D1 x.endings.length g1, .slice D2 x.clitics.length g2] 26) := ⟨_, rfl⟩
      have HB67 : Hid (Below w6.heap.size w6 w7) := Lib.hid (by rw [hw7]; exact (Below.refl _ _).alloc (Nat.le_refl _) _)
      have hX7 : w7.heap[w6.heap.size]? = some (.cells #[.slice D0 x.entries.length g0, .slice D1 x.endings.length g1, .slice D2 x.clitics.length g2] 26 (0, 0)) := by rw [hw7]; exact heap_alloc_new _ _
      have hs7 : w6.heap.size < w7.heap.size := by rw [hw7]; simp
      have H7 := Lib.hid (H6.out.trans (HB67.out.mono H6.out.size))
      obtain ⟨q0, q1, q2⟩ := lex_cells hX7
      obtain ⟨j0, j1, j2, -, -, -⟩ := CX.out w7 H7.out
      have HSM7 := Lib.hid (rSame_any _ _ x x w7 (HGX.out w7 H7.out) ((HR6.out.below HB67.out).more HB67.out.size))
      rw [← hw7]
      clear hw7 hX7
      go_wp2_with fail
      refine HSM7.out.mono ?_
      rintro e8 w8 ⟨q8, rfl, h8, hb8⟩
      obtain rfl : q8 = true := by simpa using h8
      have H8 := Lib.hid (H7.out.trans (hb8.mono H7.out.size))
      clear hb8 h8 q0 q1 q2 j0 j1 j2
      go_wp2_with fail
      refine (works_any _).mono ?_
      rintro e9 w9 ⟨rfl, hb9⟩
      have H9 := Lib.hid (H8.out.trans (hb9.mono H8.out.size))
      clear hb9
      go_wp2_with fail
      go_ret
      exact ⟨rfl, HBA.out.trans (H9.out.mono HBA.out.size)⟩
    · go_wp2_with fail
      refine (works_any _).mono ?_
      rintro e9 w9 ⟨rfl, hb9⟩
      have H9 := Lib.hid (H5.out.trans (hb9.mono H5.out.size))
      clear hb9
      go_wp2_with fail
      go_ret
      exact ⟨rfl, HBA.out.trans (H9.out.mono HBA.out.size)⟩
end Go.Proofs.YtpmnpnlfgfleeaaGreatDoor
