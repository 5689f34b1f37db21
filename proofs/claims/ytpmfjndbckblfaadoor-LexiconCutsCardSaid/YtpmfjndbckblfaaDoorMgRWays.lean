/- ostraconref05.Ways. Made by gen_rways.py. -/
import Derived.Test.YtpmfjndbckblfaaDoorMgWays
import Derived.Test.YtpmfjndbckblfaaDoorMgRegion4
namespace Go.Proofs.YtpmfjndbckblfaaDoor
open Go.RowKit

def Lx.cR (x : Lx.Lexicon) (s : ByteArray) (i tp : Nat) : Nat := (Lx.rwithV x (s.extract i tp).data.toList).length
structure RwaR (T0 : Array Value) (W0 : World) (xv : Value) (bx i tp n : Nat) (s : ByteArray) (d : Array Bool) (t : Array Value) (wc : World) : Prop where
  bel : Below W0.heap.size W0 wc
  siz : t.size = 80
  kp : ∀ i, i ∉ ([10, 52, 53, 54, 55, 56, 57, 58] : List Nat) → t[i]? = T0[i]?
  k1 : t[1]? = some (.string s)
  k2 : t[2]? = some (.pointer (some ⟨bx, 0, none⟩))
  k8 : t[8]? = some (.int .i64 (i : Int))
  k9 : t[9]? = some (.int .i64 (tp : Int))
  p0 : dn d 0 → t[52]? = some (xv)
  p1 : dn d 1 → t[53]? = some (.string s)
  p2 : dn d 2 → t[54]? = some (.int .i64 (i : Int))
  p3 : dn d 3 → t[55]? = some (.int .i64 (tp : Int))
  p4 : dn d 4 → t[56]? = some (.string (s.extract i tp))
  p5 : dn d 5 → ∃ v, t[57]? = some v ∧ ∃ A c, v = .slice A n c
  p6 : dn d 6 → t[58]? = some (.int .i64 (n : Int))
  p7 : dn d 7 → t[10]? = some (.int .i64 (n : Int))
def RwaI (T0 : Array Value) (W0 : World) (xv : Value) (bx i tp n : Nat) (s : ByteArray) (d : Array Bool) (a : Act) (wc : World) : Prop := ∃ t : Array Value, a = ⟨t, []⟩ ∧ RwaR T0 W0 xv bx i tp n s d t wc
structure RwbR (T0 : Array Value) (W0 : World) (Bs gb n i tp va vb : Nat) (d : Array Bool) (t : Array Value) (wc : World) : Prop where
  bel : Below Bs W0 wc
  siz : t.size = 80
  kp : ∀ i, i ∉ ([64, 65, 66, 67, 68, 69, 70, 71, 72, 73, 74, 75, 76] : List Nat) → t[i]? = T0[i]?
  k7 : t[7]? = some (.slice (some ⟨gb, 0, none⟩) (n + 1) (n + 1))
  k8 : t[8]? = some (.int .i64 (i : Int))
  k9 : t[9]? = some (.int .i64 (tp : Int))
  p0 : dn d 0 → t[64]? = some (.slice (some ⟨gb, 0, none⟩) (n + 1) (n + 1))
  p1 : dn d 1 → t[65]? = some (.int .i64 (i : Int))
  p2 : dn d 2 → t[66]? = some (.slice (some ⟨gb, 0, none⟩) (n + 1) (n + 1))
  p3 : dn d 3 → t[67]? = some (.int .i64 (i : Int))
  p4 : dn d 4 → t[68]? = some (.pointer (some ⟨gb, i, none⟩))
  p5 : dn d 5 → t[69]? = some (.int .i64 (va : Int))
  p6 : dn d 6 → t[70]? = some (.slice (some ⟨gb, 0, none⟩) (n + 1) (n + 1))
  p7 : dn d 7 → t[71]? = some (.int .i64 (tp : Int))
  p8 : dn d 8 → t[72]? = some (.pointer (some ⟨gb, tp, none⟩))
  p9 : dn d 9 → t[73]? = some (.int .i64 (vb : Int))
  p10 : dn d 10 → t[74]? = some (.int .i64 ((va : Int) + (vb : Int)))
  p11 : dn d 11 → t[75]? = some (.int .i64 ((Lx.addTo va vb : Nat) : Int))
  p12 : dn d 12 → t[76]? = some (.pointer (some ⟨gb, i, none⟩))
  l10 : dn d 10 → dn d 5 ∧ dn d 9
  l11 : dn d 11 → dn d 10
  l13 : dn d 13 → dn d 11
  hp : ¬ dn d 13 → wc.heap = W0.heap
  q13 : dn d 13 → wc.heap = (W0.setCell ⟨gb, i, none⟩ (.int .i64 ((Lx.addTo va vb : Nat) : Int))).heap
def RwbI (T0 : Array Value) (W0 : World) (Bs gb n i tp va vb : Nat) (d : Array Bool) (a : Act) (wc : World) : Prop := ∃ t : Array Value, a = ⟨t, []⟩ ∧ RwbR T0 W0 Bs gb n i tp va vb d t wc

set_option maxRecDepth 100000 in
set_option maxHeartbeats 4000000 in
theorem rWays_bad (x : Lx.Lexicon) (s : ByteArray) (vx : Value) (w : World) (hr : RdL w w.heap.size vx x) (hs : s.size ≤ 1000) (hz : Lx.speechV x s ≠ 0) :
    Calls Tryd.prog 31 #[vx, .string s] w (RetNN 0 (Lx.speechV x s) w) := by
  have HSP : Hid (∀ (W : World), Below w.heap.size w W → Calls Tryd.prog 70 #[vx, .string s] W (RetIB (Lx.speechV x s) W)) := Lib.hid fun W hW => rspeech_any vx x s W ((hr.below hW).more hW.size) (by simp only [maxLen]; omega)
  obtain ⟨⟨v0, v1, v2, rfl, ⟨A0, c0, rfl, -⟩, ⟨A1, c1, rfl, -⟩, ⟨A2, c2, rfl, -⟩⟩, -, -, -⟩ := hr
  generalize Lx.speechV x s = cv at *
  have hq : (cv == 0) = false := by simp [hz]
  have hq' : (cv != 0) = true := by simp [hz]
  clear hz
  go_enter Tryd.func31, Tryd.ntmps31
  go_wp2_with fail
  refine (HSP.out _ ((Below.refl _ _).alloc (Nat.le_refl _) _)).mono ?_
  rintro e1 w1 ⟨rfl, hb1⟩
  have HB1 := Lib.hid (((Below.refl w.heap.size w).alloc (Nat.le_refl _) (.cells #[.slice A0 x.entries.length c0, .slice A1 x.endings.length c1, .slice A2 x.clitics.length c2] 26)).trans (hb1.mono (by simp)))
  clear hb1
  go_wp2_with fail
  go_ret2
  exact ⟨rfl, HB1.out⟩

set_option maxRecDepth 100000 in
set_option maxHeartbeats 8000000 in
theorem rWays_good (x : Lx.Lexicon) (s : ByteArray) (vx : Value) (w : World) (hr : RdL w w.heap.size vx x) (hz : Lx.speechV x s = 0) :
    Calls Tryd.prog 31 #[vx, .string s] w (RetNN ((Lx.rwayT (Lx.cR x s) s.size s.size 0 : Nat)) 0 w) := by
  obtain ⟨hchk, hsb⟩ := Lx.speech_parts hz
  obtain ⟨hs1, hs2, hal⟩ := Lx.sounds_size hsb
  have HSP : Hid (∀ (W : World), Below w.heap.size w W → Calls Tryd.prog 70 #[vx, .string s] W (RetIB (Lx.speechV x s) W)) := Lib.hid fun W hW => rspeech_any vx x s W ((hr.below hW).more hW.size) (by simp only [maxLen]; omega)
  have HRW0 : Hid (∀ (W : World) (i tp : Nat), tp ≤ s.size → Below w.heap.size w W → Calls Tryd.prog 71 #[vx, .string (s.extract i tp)] W (fun e w' => ∃ v, e = .returned v ∧ OwnG KForm 29 w' W.heap.size v (Lx.rwithV x (s.extract i tp).data.toList) ∧ Below W.heap.size W w')) :=
    Lib.hid fun W i tp ht hW => rwith_any x _ hchk (by simp [ByteArray.size_extract]; omega) vx W ((hr.below hW).more hW.size)
  have HZ := Lib.hid hz
  have HCL : Hid (∀ i tp, Lx.cR x s i tp ≤ 20000000) := Lib.hid fun i tp => by
    obtain ⟨ht0, ht1, ht2⟩ := Lx.tooMany_no (Lx.check_parts hchk).1
    have h1 := Lx.rwithN_len x (s.extract i tp).data.toList ht2 ht1 x.entries.length
    have h2 : x.entries.length * 54571 ≤ 200 * 54571 := Nat.mul_le_mul_right _ ht0
    exact Nat.le_trans h1 (by omega)
  obtain ⟨⟨v0, v1, v2, rfl, ⟨A0, c0, rfl, -⟩, ⟨A1, c1, rfl, -⟩, ⟨A2, c2, rfl, -⟩⟩, -, -, -⟩ := hr
  have hs64 : s.size ≤ 9223372036854775807 := by omega
  have cx : ∀ (W : World), W.heap[w.heap.size]? = some (.cells #[.slice A0 x.entries.length c0, .slice A1 x.endings.length c1, .slice A2 x.clitics.length c2] 26 (0, 0)) →
      W.cell? ⟨w.heap.size, 0, none⟩ = some (.slice A0 x.entries.length c0) ∧ W.cell? ⟨w.heap.size, 1, none⟩ = some (.slice A1 x.endings.length c1) ∧ W.cell? ⟨w.heap.size, 2, none⟩ = some (.slice A2 x.clitics.length c2) :=
    fun W h => ⟨by simp [World.cell?, h], by simp [World.cell?, h], by simp [World.cell?, h]⟩
  have CX := Lib.hid cx
  clear hz hchk hsb hal cx
  go_enter Tryd.func31, Tryd.ntmps31
  go_wp2_with fail
  refine (HSP.out _ ((Below.refl _ _).alloc (Nat.le_refl _) _)).mono ?_
  rw [HZ.out]
  rintro e1 w1 ⟨rfl, hb1⟩
  have hwG0 : w.heap.size < w1.heap.size := by have := hb1.size; simp at this; omega
  have HX1 : Hid (w1.heap[w.heap.size]? = some (.cells #[.slice A0 x.entries.length c0, .slice A1 x.endings.length c1, .slice A2 x.clitics.length c2] 26 (0, 0))) := Lib.hid ((hb1.block _ (by simp)).trans (heap_alloc_new _ _))
  have HB1 := Lib.hid (((Below.refl w.heap.size w).alloc (Nat.le_refl _) (.cells #[.slice A0 x.entries.length c0, .slice A1 x.endings.length c1, .slice A2 x.clitics.length c2] 26)).trans (hb1.mono (by simp)))
  clear hb1
  obtain ⟨arr0, hsz0, harr0, hmk⟩ := make_ints s.size (by omega)
  have hc0 := harr0 s.size (by omega)
  go_wp2_with fail
  obtain ⟨G, hG⟩ : ∃ G, G = w1.heap.size := ⟨_, rfl⟩
  rw [← hG]
  have HG := Lib.hid hG
  have hwG : w.heap.size < G := by rw [hG]; exact hwG0
  have HSTART : Hid (∀ A : Obj, (w1.alloc A).heap[G]? = some A ∧ Below G w1 (w1.alloc A) ∧ (w1.alloc A).heap.size = G + 1) := Lib.hid fun A => by
    rw [hG]
    exact ⟨heap_alloc_new _ _, (Below.refl _ _).alloc (Nat.le_refl _) _, by simp⟩
  clear hG hmk hc0 hwG0
  go_loopg [8] s.size (fun g i wr => ∃ (k : Nat) (p : Int), k ≤ s.size ∧ g = s.size - k ∧ p = (s.size : Int) - 1 - k ∧ i = .int .i64 p ∧ Below G w1 wr ∧ G + 1 ≤ wr.heap.size ∧ RdN wr G s.size (Lx.rwayT (Lx.cR x s) s.size k))
  case atStart =>
    obtain ⟨q1, q2, q3⟩ := HSTART.out (.cells (arr0.setIfInBounds s.size (.int .i64 1)) 3)
    refine ⟨0, (s.size : Int) - 1, Nat.zero_le _, rfl, by omega, rfl, q2, Nat.le_of_eq q3.symm, _, q1, by simp [hsz0], fun j hj => ?_⟩
    by_cases hjn : j = s.size
    · subst hjn
      rw [set_same (by omega)]
      simp [Lx.rwayT]
    · rw [set_other hjn, harr0 j hj]
      simp [Lx.rwayT, hjn]
  case round =>
    obtain ⟨k, p, hk, rfl, hp, rfl, hbel, hsz, hrn⟩ := hrel
    have HBEL := Lib.hid hbel
    have HRN := Lib.hid hrn
    by_cases hp0 : 0 ≤ p
    · obtain ⟨i, hi⟩ : ∃ i : Nat, p = (i : Int) := ⟨p.toNat, by omega⟩
      subst hi
      have HK : Hid (i = s.size - (k + 1) ∧ k + 1 ≤ s.size) := Lib.hid ⟨by omega, by omega⟩
      have hin : i < s.size := by omega
      clear hp hp0 hbel hrn
      go_wp2_with fail
      go_loopg [9] (min (s.size - i) 24) (fun g tt wq => ∃ b tp : Nat, b ≤ min (s.size - i) 24 ∧ g = min (s.size - i) 24 - b ∧ tp = i + 1 + b ∧ tt = .int .i64 (tp : Int) ∧ Below G w1 wq ∧ G + 1 ≤ wq.heap.size ∧
        RdN wq G s.size (Lx.upd (Lx.rwayT (Lx.cR x s) s.size k) i (Lx.rwaysTo (Lx.cR x s) s.size k b)))
      case atStart => exact ⟨0, i + 1, Nat.zero_le _, rfl, rfl, by go_num, HBEL.out, hsz, by have := Lx.rwayT_start (c := Lx.cR x s) HK.out.2; rw [← HK.out.1] at this; rw [this]; exact HRN.out⟩
      case round =>
        rename World => wq
        obtain ⟨b, tp, hb, rfl, hto, rfl, hbq, hsq, hrq⟩ := hrel
        have HBQ := Lib.hid hbq
        have HRQ := Lib.hid hrq
        by_cases hlt : b < min (s.size - i) 24
        · have hton : tp ≤ s.size := by omega
          have hto1 : (tp : Int) ≤ (s.size : Int) := by omega
          have hto2 : (tp : Int) - (i : Int) ≤ 24 := by omega
          have hio : i < tp := by omega
          obtain ⟨vb, hvb⟩ : ∃ vb, vb = Lx.rwayT (Lx.cR x s) s.size k tp := ⟨_, rfl⟩
          have y0 : wq.cell? ⟨G, tp, none⟩ = some (.int .i64 (vb : Int)) := by
            have := hrq.cell hton
            rwa [Lx.upd_ne _ _ (by omega), ← hvb] at this
          have HLT : Hid (b < min (s.size - (s.size - (k + 1))) 24) := Lib.hid (by rw [← HK.out.1]; exact hlt)
          have HTO : Hid (s.size - (k + 1) + 1 + b = tp) := Lib.hid (by rw [← HK.out.1]; exact hto.symm)
          have HVB := Lib.hid hvb
          have hvbl : vb ≤ 1099511627776 := by rw [hvb]; exact Lx.rwayT_le _ _
          have HTP := Lib.hid hto
          clear hto
          by_cases hv0 : vb = 0
          · have hq0 : ((vb : Int) == 0) = true := by simp [hv0]
            have HN : Hid (Lx.rwaysTo (Lx.cR x s) s.size k (b + 1) = Lx.rwaysTo (Lx.cR x s) s.size k b) := Lib.hid (Lx.rwaysTo_none HLT.out (by rw [HTO.out, ← hvb]; exact hv0))
            clear hbq hrq hvb hv0
            go_wp2_with fail
            go_roundg (min (s.size - i) 24 - (b + 1))
            case measure => omega
            case rel => exact ⟨b + 1, tp + 1, by omega, rfl, by have := HTP.out; omega, by go_num, HBQ.out, hsq, by rw [HN.out]; exact HRQ.out⟩
          · have hq0 : ((vb : Int) == 0) = false := by simp [hv0]
            have HXQ := Lib.hid ((hbq.block w.heap.size hwG).trans HX1.out)
            have HRW := Lib.hid (fun (W : World) (hW : Below wq.heap.size wq W) => HRW0.out W i tp hton (HB1.out.trans ((hbq.trans (hW.mono (by omega))).mono (by rw [HG.out]; exact HB1.out.size))))
            have htoI : (i : Int) ≤ (tp : Int) := by omega
            have hcl := HCL.out i tp
            clear hbq hrq hvb hv0
            go_upto_region 13 with fail
            refine wp_region_inv2T (fun T0 => RwaI T0 wq (.agg #[.slice A0 x.entries.length c0, .slice A1 x.endings.length c1, .slice A2 x.clitics.length c2]) w.heap.size i tp (Lx.cR x s i tp) s) (by kernel_rfl) (by kernel_rfl) ?g0a ?gstepa ?genda
            case g0a =>
              have hno : ∀ j, ¬ dn (Array.replicate 8 false) j := by
                intro j; unfold dn; by_cases hj : j < 8 <;> simp [Array.getD, hj]
              have na : ∀ {j : Nat} {Z : Prop}, dn (Array.replicate 8 false) j → Z := fun hj => absurd hj (hno _)
              exact ⟨_, rfl, { bel := (Below.refl _ _).drew, siz := rfl, kp := fun _ _ => rfl, k1 := rfl, k2 := rfl, k8 := rfl, k9 := rfl, p0 := na, p1 := na, p2 := na, p3 := na, p4 := na, p5 := fun hj => absurd hj (hno _), p6 := na, p7 := na }⟩
            case gstepa =>
              intro T0 d a wc i hd hI hi
              obtain ⟨hlt, hnd, hpre⟩ := mem_ready hi
              have hd' : d.size = 8 := hd
              have hin : i < 8 := hlt
              clear hi hd hlt
              obtain ⟨t, rfl, h⟩ := hI
              have hcs : i = 0 ∨ i = 1 ∨ i = 2 ∨ i = 3 ∨ i = 4 ∨ i = 5 ∨ i = 6 ∨ i = 7 := by omega
              rcases hcs with rfl | rfl | rfl | rfl | rfl | rfl | rfl | rfl
              · have hi : 0 < d.size := by omega
                have q2 := h.k2
                obtain ⟨m0, m1, m2⟩ := CX.out wc ((h.bel.block _ (by omega)).trans HXQ.out)
                refine wpOp_plain rfl rfl ?_
                go_simp
                exact ⟨_, rfl, { bel := h.bel, siz := (by simpa using h.siz), kp := rk h.kp, k1 := rs h.k1, k2 := rs h.k2, k8 := rs h.k8, k9 := rs h.k9, p0 := fun _ => set_same (by have := h.siz; omega), p1 := rp hi h.p1, p2 := rp hi h.p2, p3 := rp hi h.p3, p4 := rp hi h.p4, p5 := rc hi h.p5 (fun v h2 => h2), p6 := rp hi h.p6, p7 := rp hi h.p7 }⟩
              · have hi : 1 < d.size := by omega
                have q1 := h.k1
                refine wpOp_plain rfl rfl ?_
                go_simp
                exact ⟨_, rfl, { bel := h.bel, siz := (by simpa using h.siz), kp := rk h.kp, k1 := rs h.k1, k2 := rs h.k2, k8 := rs h.k8, k9 := rs h.k9, p0 := rp hi h.p0, p1 := fun _ => set_same (by have := h.siz; omega), p2 := rp hi h.p2, p3 := rp hi h.p3, p4 := rp hi h.p4, p5 := rc hi h.p5 (fun v h2 => h2), p6 := rp hi h.p6, p7 := rp hi h.p7 }⟩
              · have hi : 2 < d.size := by omega
                have q8 := h.k8
                refine wpOp_plain rfl rfl ?_
                go_simp
                exact ⟨_, rfl, { bel := h.bel, siz := (by simpa using h.siz), kp := rk h.kp, k1 := rs h.k1, k2 := rs h.k2, k8 := rs h.k8, k9 := rs h.k9, p0 := rp hi h.p0, p1 := rp hi h.p1, p2 := fun _ => set_same (by have := h.siz; omega), p3 := rp hi h.p3, p4 := rp hi h.p4, p5 := rc hi h.p5 (fun v h2 => h2), p6 := rp hi h.p6, p7 := rp hi h.p7 }⟩
              · have hi : 3 < d.size := by omega
                have q9 := h.k9
                refine wpOp_plain rfl rfl ?_
                go_simp
                exact ⟨_, rfl, { bel := h.bel, siz := (by simpa using h.siz), kp := rk h.kp, k1 := rs h.k1, k2 := rs h.k2, k8 := rs h.k8, k9 := rs h.k9, p0 := rp hi h.p0, p1 := rp hi h.p1, p2 := rp hi h.p2, p3 := fun _ => set_same (by have := h.siz; omega), p4 := rp hi h.p4, p5 := rc hi h.p5 (fun v h2 => h2), p6 := rp hi h.p6, p7 := rp hi h.p7 }⟩
              · have hi : 4 < d.size := by omega
                have e1 := h.p1 (hpre _ rfl ⟨1, .data⟩ (by simp) rfl)
                have e2 := h.p2 (hpre _ rfl ⟨2, .data⟩ (by simp) rfl)
                have e3 := h.p3 (hpre _ rfl ⟨3, .data⟩ (by simp) rfl)
                refine wpOp_plain rfl rfl ?_
                go_simp
                exact ⟨_, rfl, { bel := h.bel, siz := (by simpa using h.siz), kp := rk h.kp, k1 := rs h.k1, k2 := rs h.k2, k8 := rs h.k8, k9 := rs h.k9, p0 := rp hi h.p0, p1 := rp hi h.p1, p2 := rp hi h.p2, p3 := rp hi h.p3, p4 := fun _ => set_same (by have := h.siz; omega), p5 := rc hi h.p5 (fun v h2 => h2), p6 := rp hi h.p6, p7 := rp hi h.p7 }⟩
              · have hi : 5 < d.size := by omega
                have e0 := h.p0 (hpre _ rfl ⟨0, .data⟩ (by simp) rfl)
                have e4 := h.p4 (hpre _ rfl ⟨4, .data⟩ (by simp) rfl)
                refine wpOp_plain rfl rfl ?_
                go_simp
                refine (HRW.out wc h.bel).mono ?_
                rintro e1 w1 ⟨v1, rfl, hog, hb⟩
                exact ⟨_, rfl, { bel := h.bel.trans (hb.mono h.bel.size), siz := (by simpa using h.siz), kp := rk h.kp, k1 := rs h.k1, k2 := rs h.k2, k8 := rs h.k8, k9 := rs h.k9, p0 := rp hi h.p0, p1 := rp hi h.p1, p2 := rp hi h.p2, p3 := rp hi h.p3, p4 := rp hi h.p4, p5 := fun _ => ⟨v1, set_same (by have := h.siz; omega), hog.form⟩, p6 := rp hi h.p6, p7 := rp hi h.p7 }⟩
              · have hi : 6 < d.size := by omega
                obtain ⟨v5, e5, r5⟩ := h.p5 (hpre _ rfl ⟨5, .data⟩ (by simp) rfl)
                obtain ⟨A, c, rfl⟩ := r5
                refine wpOp_plain rfl rfl ?_
                go_simp
                exact ⟨_, rfl, { bel := h.bel, siz := (by simpa using h.siz), kp := rk h.kp, k1 := rs h.k1, k2 := rs h.k2, k8 := rs h.k8, k9 := rs h.k9, p0 := rp hi h.p0, p1 := rp hi h.p1, p2 := rp hi h.p2, p3 := rp hi h.p3, p4 := rp hi h.p4, p5 := rc hi h.p5 (fun v h2 => h2), p6 := fun _ => set_same (by have := h.siz; omega), p7 := rp hi h.p7 }⟩
              · have hi : 7 < d.size := by omega
                have e6 := h.p6 (hpre _ rfl ⟨6, .data⟩ (by simp) rfl)
                refine wpOp_plain rfl rfl ?_
                go_simp
                exact ⟨_, rfl, { bel := h.bel, siz := (by simpa using h.siz), kp := rk h.kp, k1 := rs h.k1, k2 := rs h.k2, k8 := rs h.k8, k9 := rs h.k9, p0 := rp hi h.p0, p1 := rp hi h.p1, p2 := rp hi h.p2, p3 := rp hi h.p3, p4 := rp hi h.p4, p5 := rc hi h.p5 (fun v h2 => h2), p6 := rp hi h.p6, p7 := fun _ => set_same (by have := h.siz; omega) }⟩
            case genda =>
              intro d a wc hd hI hall
              obtain ⟨t, rfl, h⟩ := hI
              have hdn : ∀ j, j < 8 → dn d j := fun j hj => dn_all hd hall hj
              have hd : ∀ j, (_ : j < 8 := by decide) → dn d j := fun j hj => hdn j hj
              obtain ⟨v5, e5, r5⟩ := h.p5 (hd 5)
              have hfe := frame_eq [(10, _), (52, _), (53, _), (54, _), (55, _), (56, _), (57, v5), (58, _)] (h.siz.trans rfl) h.kp rfl ⟨h.p7 (hd 7), h.p0 (hd 0), h.p1 (hd 1), h.p2 (hd 2), h.p3 (hd 3), h.p4 (hd 4), e5, h.p6 (hd 6), trivial⟩
              simp only [List.foldl_cons, List.foldl_nil, List.setIfInBounds_toArray, List.set_cons_succ, List.set_cons_zero] at hfe
              have hbc := h.bel
              subst hfe
              clear h hdn hd hall
              have HBC := Lib.hid (HBQ.out.trans (hbc.mono (by omega)))
              have HRC := Lib.hid (HRQ.out.block (hbc.block _ (by omega)))
              have hsc := hbc.size
              clear hbc r5 y0 hto1 hto2
              go_wp2_with fail
              go_loopg [11] (Lx.cR x s i tp) (fun g j wz => ∃ q : Nat, q ≤ Lx.cR x s i tp ∧ g = Lx.cR x s i tp - q ∧ j = .int .i64 q ∧ Below G w1 wz ∧ G + 1 ≤ wz.heap.size ∧ RdN wz G s.size (Lx.upd (Lx.rwayT (Lx.cR x s) s.size k) i (Lx.rwaysQ (Lx.cR x s) s.size k b q)))
              case atStart => exact ⟨0, Nat.zero_le _, rfl, rfl, HBC.out, by omega, HRC.out⟩
              case round =>
                rename World => wz
                obtain ⟨q, hq, rfl, rfl, hbz, hsz9, hrz⟩ := hrel
                have HBZ := Lib.hid hbz
                have HRZ := Lib.hid hrz
                by_cases hlq : q < Lx.cR x s i tp
                · have hlqI : (q : Int) < (Lx.cR x s i tp : Int) := by omega
                  obtain ⟨va, hva⟩ : ∃ va, va = Lx.rwaysQ (Lx.cR x s) s.size k b q := ⟨_, rfl⟩
                  have hval : va ≤ 1099511627776 := by rw [hva]; exact Lx.rwaysQ_le _ _ _ _ _
                  have HN : Hid (Lx.rwaysQ (Lx.cR x s) s.size k b (q + 1) = Lx.addTo va vb) := Lib.hid (by rw [Lx.rwaysQ_succ, HTO.out, hva, HVB.out])
                  rw [← hva] at HRZ
                  have hrz2 := HRZ.out
                  have CG : Hid (∀ W : World, W.heap = wz.heap → W.cell? ⟨G, i, none⟩ = some (.int .i64 (va : Int)) ∧ W.cell? ⟨G, tp, none⟩ = some (.int .i64 (vb : Int)) ∧ W.frozen? ⟨G, i, none⟩ = false) := Lib.hid fun W hW => by
                    refine ⟨(cell_heap hW _).trans ?_, (cell_heap hW _).trans ?_, (frozen_heap hW _).trans (hrz2.frozen _)⟩
                    · have := hrz2.cell (j := i) (by omega)
                      rwa [Lx.upd_at] at this
                    · have := hrz2.cell (j := tp) (by omega)
                      rwa [Lx.upd_ne _ _ (by omega), ← HVB.out] at this
                  clear hbz hrz hrz2 hva hlq
                  go_upto_region 17 with fail
                  refine wp_region_inv2T (fun T0 => RwbI T0 wz G G s.size i tp va vb) (by kernel_rfl) (by kernel_rfl) ?g0b ?gstepb ?gendb
                  case g0b =>
                    have hno : ∀ j, ¬ dn (Array.replicate 14 false) j := by
                      intro j; unfold dn; by_cases hj : j < 14 <;> simp [Array.getD, hj]
                    have na : ∀ {j : Nat} {Z : Prop}, dn (Array.replicate 14 false) j → Z := fun hj => absurd hj (hno _)
                    exact ⟨_, rfl, { bel := (Below.refl _ _).drew, siz := rfl, kp := fun _ _ => rfl, k7 := rfl, k8 := rfl, k9 := rfl, p0 := na, p1 := na, p2 := na, p3 := na, p4 := na, p5 := na, p6 := na, p7 := na, p8 := na, p9 := na, p10 := na, p11 := na, p12 := na, l10 := fun hj => absurd hj (hno _), l11 := fun hj => absurd hj (hno _), l13 := fun hj => absurd hj (hno _), hp := fun _ => rfl, q13 := fun hj => absurd hj (hno _) }⟩
                  case gstepb =>
                    intro T0 d a wc i hd hI hi
                    obtain ⟨hlt, hnd, hpre⟩ := mem_ready hi
                    have hd' : d.size = 14 := hd
                    have hin : i < 14 := hlt
                    clear hi hd hlt
                    obtain ⟨t, rfl, h⟩ := hI
                    have hcs : i = 0 ∨ i = 1 ∨ i = 2 ∨ i = 3 ∨ i = 4 ∨ i = 5 ∨ i = 6 ∨ i = 7 ∨ i = 8 ∨ i = 9 ∨ i = 10 ∨ i = 11 ∨ i = 12 ∨ i = 13 := by omega
                    rcases hcs with rfl | rfl | rfl | rfl | rfl | rfl | rfl | rfl | rfl | rfl | rfl | rfl | rfl | rfl
                    · have hi : 0 < d.size := by omega
                      have q7 := h.k7
                      refine wpOp_plain rfl rfl ?_
                      go_simp
                      exact ⟨_, rfl, { bel := h.bel, siz := (by simpa using h.siz), kp := rk h.kp, k7 := rs h.k7, k8 := rs h.k8, k9 := rs h.k9, l10 := fun hj => (fun q => ⟨dn_up q.1, dn_up q.2⟩) (h.l10 (dn_of hi hj (by decide))), l11 := fun hj => dn_up (h.l11 (dn_of hi hj (by decide))), l13 := fun hj => dn_up (h.l13 (dn_of hi hj (by decide))), hp := fun hk => h.hp (fun q => hk (dn_up q)), q13 := fun hj => h.q13 (dn_of hi hj (by decide)), p0 := fun _ => set_same (by have := h.siz; omega), p1 := rp hi h.p1, p2 := rp hi h.p2, p3 := rp hi h.p3, p4 := rp hi h.p4, p5 := rp hi h.p5, p6 := rp hi h.p6, p7 := rp hi h.p7, p8 := rp hi h.p8, p9 := rp hi h.p9, p10 := rp hi h.p10, p11 := rp hi h.p11, p12 := rp hi h.p12 }⟩
                    · have hi : 1 < d.size := by omega
                      have q8 := h.k8
                      refine wpOp_plain rfl rfl ?_
                      go_simp
                      exact ⟨_, rfl, { bel := h.bel, siz := (by simpa using h.siz), kp := rk h.kp, k7 := rs h.k7, k8 := rs h.k8, k9 := rs h.k9, l10 := fun hj => (fun q => ⟨dn_up q.1, dn_up q.2⟩) (h.l10 (dn_of hi hj (by decide))), l11 := fun hj => dn_up (h.l11 (dn_of hi hj (by decide))), l13 := fun hj => dn_up (h.l13 (dn_of hi hj (by decide))), hp := fun hk => h.hp (fun q => hk (dn_up q)), q13 := fun hj => h.q13 (dn_of hi hj (by decide)), p0 := rp hi h.p0, p1 := fun _ => set_same (by have := h.siz; omega), p2 := rp hi h.p2, p3 := rp hi h.p3, p4 := rp hi h.p4, p5 := rp hi h.p5, p6 := rp hi h.p6, p7 := rp hi h.p7, p8 := rp hi h.p8, p9 := rp hi h.p9, p10 := rp hi h.p10, p11 := rp hi h.p11, p12 := rp hi h.p12 }⟩
                    · have hi : 2 < d.size := by omega
                      have q7 := h.k7
                      refine wpOp_plain rfl rfl ?_
                      go_simp
                      exact ⟨_, rfl, { bel := h.bel, siz := (by simpa using h.siz), kp := rk h.kp, k7 := rs h.k7, k8 := rs h.k8, k9 := rs h.k9, l10 := fun hj => (fun q => ⟨dn_up q.1, dn_up q.2⟩) (h.l10 (dn_of hi hj (by decide))), l11 := fun hj => dn_up (h.l11 (dn_of hi hj (by decide))), l13 := fun hj => dn_up (h.l13 (dn_of hi hj (by decide))), hp := fun hk => h.hp (fun q => hk (dn_up q)), q13 := fun hj => h.q13 (dn_of hi hj (by decide)), p0 := rp hi h.p0, p1 := rp hi h.p1, p2 := fun _ => set_same (by have := h.siz; omega), p3 := rp hi h.p3, p4 := rp hi h.p4, p5 := rp hi h.p5, p6 := rp hi h.p6, p7 := rp hi h.p7, p8 := rp hi h.p8, p9 := rp hi h.p9, p10 := rp hi h.p10, p11 := rp hi h.p11, p12 := rp hi h.p12 }⟩
                    · have hi : 3 < d.size := by omega
                      have q8 := h.k8
                      refine wpOp_plain rfl rfl ?_
                      go_simp
                      exact ⟨_, rfl, { bel := h.bel, siz := (by simpa using h.siz), kp := rk h.kp, k7 := rs h.k7, k8 := rs h.k8, k9 := rs h.k9, l10 := fun hj => (fun q => ⟨dn_up q.1, dn_up q.2⟩) (h.l10 (dn_of hi hj (by decide))), l11 := fun hj => dn_up (h.l11 (dn_of hi hj (by decide))), l13 := fun hj => dn_up (h.l13 (dn_of hi hj (by decide))), hp := fun hk => h.hp (fun q => hk (dn_up q)), q13 := fun hj => h.q13 (dn_of hi hj (by decide)), p0 := rp hi h.p0, p1 := rp hi h.p1, p2 := rp hi h.p2, p3 := fun _ => set_same (by have := h.siz; omega), p4 := rp hi h.p4, p5 := rp hi h.p5, p6 := rp hi h.p6, p7 := rp hi h.p7, p8 := rp hi h.p8, p9 := rp hi h.p9, p10 := rp hi h.p10, p11 := rp hi h.p11, p12 := rp hi h.p12 }⟩
                    · have hi : 4 < d.size := by omega
                      have e2 := h.p2 (hpre _ rfl ⟨2, .data⟩ (by simp) rfl)
                      have e3 := h.p3 (hpre _ rfl ⟨3, .data⟩ (by simp) rfl)
                      have hx1 : (i : Int) < (s.size : Int) + 1 := by omega
                      refine wpOp_plain rfl rfl ?_
                      go_simp
                      exact ⟨_, rfl, { bel := h.bel, siz := (by simpa using h.siz), kp := rk h.kp, k7 := rs h.k7, k8 := rs h.k8, k9 := rs h.k9, l10 := fun hj => (fun q => ⟨dn_up q.1, dn_up q.2⟩) (h.l10 (dn_of hi hj (by decide))), l11 := fun hj => dn_up (h.l11 (dn_of hi hj (by decide))), l13 := fun hj => dn_up (h.l13 (dn_of hi hj (by decide))), hp := fun hk => h.hp (fun q => hk (dn_up q)), q13 := fun hj => h.q13 (dn_of hi hj (by decide)), p0 := rp hi h.p0, p1 := rp hi h.p1, p2 := rp hi h.p2, p3 := rp hi h.p3, p4 := fun _ => set_same (by have := h.siz; omega), p5 := rp hi h.p5, p6 := rp hi h.p6, p7 := rp hi h.p7, p8 := rp hi h.p8, p9 := rp hi h.p9, p10 := rp hi h.p10, p11 := rp hi h.p11, p12 := rp hi h.p12 }⟩
                    · have hi : 5 < d.size := by omega
                      have e4 := h.p4 (hpre _ rfl ⟨4, .data⟩ (by simp) rfl)
                      have hns : ¬ dn d 13 := fun q => not_dn hi hnd ((h.l10 (h.l11 (h.l13 q))).1)
                      have hc0 := CG.out wc (h.hp hns)
                      obtain ⟨ca, cb, cz⟩ := hc0
                      refine wpOp_plain rfl rfl ?_
                      go_simp
                      exact ⟨_, rfl, { bel := h.bel, siz := (by simpa using h.siz), kp := rk h.kp, k7 := rs h.k7, k8 := rs h.k8, k9 := rs h.k9, l10 := fun hj => absurd (h.l10 (dn_of hi hj (by decide))).1 (not_dn hi hnd), l11 := fun hj => dn_up (h.l11 (dn_of hi hj (by decide))), l13 := fun hj => dn_up (h.l13 (dn_of hi hj (by decide))), hp := fun hk => h.hp (fun q => hk (dn_up q)), q13 := fun hj => h.q13 (dn_of hi hj (by decide)), p0 := rp hi h.p0, p1 := rp hi h.p1, p2 := rp hi h.p2, p3 := rp hi h.p3, p4 := rp hi h.p4, p5 := fun _ => set_same (by have := h.siz; omega), p6 := rp hi h.p6, p7 := rp hi h.p7, p8 := rp hi h.p8, p9 := rp hi h.p9, p10 := rp hi h.p10, p11 := rp hi h.p11, p12 := rp hi h.p12 }⟩
                    · have hi : 6 < d.size := by omega
                      have q7 := h.k7
                      refine wpOp_plain rfl rfl ?_
                      go_simp
                      exact ⟨_, rfl, { bel := h.bel, siz := (by simpa using h.siz), kp := rk h.kp, k7 := rs h.k7, k8 := rs h.k8, k9 := rs h.k9, l10 := fun hj => (fun q => ⟨dn_up q.1, dn_up q.2⟩) (h.l10 (dn_of hi hj (by decide))), l11 := fun hj => dn_up (h.l11 (dn_of hi hj (by decide))), l13 := fun hj => dn_up (h.l13 (dn_of hi hj (by decide))), hp := fun hk => h.hp (fun q => hk (dn_up q)), q13 := fun hj => h.q13 (dn_of hi hj (by decide)), p0 := rp hi h.p0, p1 := rp hi h.p1, p2 := rp hi h.p2, p3 := rp hi h.p3, p4 := rp hi h.p4, p5 := rp hi h.p5, p6 := fun _ => set_same (by have := h.siz; omega), p7 := rp hi h.p7, p8 := rp hi h.p8, p9 := rp hi h.p9, p10 := rp hi h.p10, p11 := rp hi h.p11, p12 := rp hi h.p12 }⟩
                    · have hi : 7 < d.size := by omega
                      have q9 := h.k9
                      refine wpOp_plain rfl rfl ?_
                      go_simp
                      exact ⟨_, rfl, { bel := h.bel, siz := (by simpa using h.siz), kp := rk h.kp, k7 := rs h.k7, k8 := rs h.k8, k9 := rs h.k9, l10 := fun hj => (fun q => ⟨dn_up q.1, dn_up q.2⟩) (h.l10 (dn_of hi hj (by decide))), l11 := fun hj => dn_up (h.l11 (dn_of hi hj (by decide))), l13 := fun hj => dn_up (h.l13 (dn_of hi hj (by decide))), hp := fun hk => h.hp (fun q => hk (dn_up q)), q13 := fun hj => h.q13 (dn_of hi hj (by decide)), p0 := rp hi h.p0, p1 := rp hi h.p1, p2 := rp hi h.p2, p3 := rp hi h.p3, p4 := rp hi h.p4, p5 := rp hi h.p5, p6 := rp hi h.p6, p7 := fun _ => set_same (by have := h.siz; omega), p8 := rp hi h.p8, p9 := rp hi h.p9, p10 := rp hi h.p10, p11 := rp hi h.p11, p12 := rp hi h.p12 }⟩
                    · have hi : 8 < d.size := by omega
                      have e6 := h.p6 (hpre _ rfl ⟨6, .data⟩ (by simp) rfl)
                      have e7 := h.p7 (hpre _ rfl ⟨7, .data⟩ (by simp) rfl)
                      have hx1 : (tp : Int) < (s.size : Int) + 1 := by omega
                      refine wpOp_plain rfl rfl ?_
                      go_simp
                      exact ⟨_, rfl, { bel := h.bel, siz := (by simpa using h.siz), kp := rk h.kp, k7 := rs h.k7, k8 := rs h.k8, k9 := rs h.k9, l10 := fun hj => (fun q => ⟨dn_up q.1, dn_up q.2⟩) (h.l10 (dn_of hi hj (by decide))), l11 := fun hj => dn_up (h.l11 (dn_of hi hj (by decide))), l13 := fun hj => dn_up (h.l13 (dn_of hi hj (by decide))), hp := fun hk => h.hp (fun q => hk (dn_up q)), q13 := fun hj => h.q13 (dn_of hi hj (by decide)), p0 := rp hi h.p0, p1 := rp hi h.p1, p2 := rp hi h.p2, p3 := rp hi h.p3, p4 := rp hi h.p4, p5 := rp hi h.p5, p6 := rp hi h.p6, p7 := rp hi h.p7, p8 := fun _ => set_same (by have := h.siz; omega), p9 := rp hi h.p9, p10 := rp hi h.p10, p11 := rp hi h.p11, p12 := rp hi h.p12 }⟩
                    · have hi : 9 < d.size := by omega
                      have e8 := h.p8 (hpre _ rfl ⟨8, .data⟩ (by simp) rfl)
                      have hns : ¬ dn d 13 := fun q => not_dn hi hnd ((h.l10 (h.l11 (h.l13 q))).2)
                      have hc0 := CG.out wc (h.hp hns)
                      obtain ⟨ca, cb, cz⟩ := hc0
                      refine wpOp_plain rfl rfl ?_
                      go_simp
                      exact ⟨_, rfl, { bel := h.bel, siz := (by simpa using h.siz), kp := rk h.kp, k7 := rs h.k7, k8 := rs h.k8, k9 := rs h.k9, l10 := fun hj => absurd (h.l10 (dn_of hi hj (by decide))).2 (not_dn hi hnd), l11 := fun hj => dn_up (h.l11 (dn_of hi hj (by decide))), l13 := fun hj => dn_up (h.l13 (dn_of hi hj (by decide))), hp := fun hk => h.hp (fun q => hk (dn_up q)), q13 := fun hj => h.q13 (dn_of hi hj (by decide)), p0 := rp hi h.p0, p1 := rp hi h.p1, p2 := rp hi h.p2, p3 := rp hi h.p3, p4 := rp hi h.p4, p5 := rp hi h.p5, p6 := rp hi h.p6, p7 := rp hi h.p7, p8 := rp hi h.p8, p9 := fun _ => set_same (by have := h.siz; omega), p10 := rp hi h.p10, p11 := rp hi h.p11, p12 := rp hi h.p12 }⟩
                    · have hi : 10 < d.size := by omega
                      have e5 := h.p5 (hpre _ rfl ⟨5, .data⟩ (by simp) rfl)
                      have e9 := h.p9 (hpre _ rfl ⟨9, .data⟩ (by simp) rfl)
                      refine wpOp_plain rfl rfl ?_
                      go_simp
                      simp (disch := omega) only [IntWalk.i64_in]
                      exact ⟨_, rfl, { bel := h.bel, siz := (by simpa using h.siz), kp := rk h.kp, k7 := rs h.k7, k8 := rs h.k8, k9 := rs h.k9, l10 := fun _ => ⟨dn_up (hpre _ rfl ⟨5, .data⟩ (by simp) rfl), dn_up (hpre _ rfl ⟨9, .data⟩ (by simp) rfl)⟩, l11 := fun hj => absurd (h.l11 (dn_of hi hj (by decide))) (not_dn hi hnd), l13 := fun hj => dn_up (h.l13 (dn_of hi hj (by decide))), hp := fun hk => h.hp (fun q => hk (dn_up q)), q13 := fun hj => h.q13 (dn_of hi hj (by decide)), p0 := rp hi h.p0, p1 := rp hi h.p1, p2 := rp hi h.p2, p3 := rp hi h.p3, p4 := rp hi h.p4, p5 := rp hi h.p5, p6 := rp hi h.p6, p7 := rp hi h.p7, p8 := rp hi h.p8, p9 := rp hi h.p9, p10 := fun _ => set_same (by have := h.siz; omega), p11 := rp hi h.p11, p12 := rp hi h.p12 }⟩
                    · have hi : 11 < d.size := by omega
                      have e10 := h.p10 (hpre _ rfl ⟨10, .data⟩ (by simp) rfl)
                      refine wpOp_plain rfl rfl ?_
                      go_simp
                      rw [show min ((va : Int) + (vb : Int)) 1099511627776 = ((Lx.addTo va vb : Nat) : Int) by unfold Lx.addTo Lx.cnt; omega]
                      exact ⟨_, rfl, { bel := h.bel, siz := (by simpa using h.siz), kp := rk h.kp, k7 := rs h.k7, k8 := rs h.k8, k9 := rs h.k9, l10 := fun hj => (fun q => ⟨dn_up q.1, dn_up q.2⟩) (h.l10 (dn_of hi hj (by decide))), l11 := fun _ => dn_up (hpre _ rfl ⟨10, .data⟩ (by simp) rfl), l13 := fun hj => absurd (h.l13 (dn_of hi hj (by decide))) (not_dn hi hnd), hp := fun hk => h.hp (fun q => hk (dn_up q)), q13 := fun hj => h.q13 (dn_of hi hj (by decide)), p0 := rp hi h.p0, p1 := rp hi h.p1, p2 := rp hi h.p2, p3 := rp hi h.p3, p4 := rp hi h.p4, p5 := rp hi h.p5, p6 := rp hi h.p6, p7 := rp hi h.p7, p8 := rp hi h.p8, p9 := rp hi h.p9, p10 := rp hi h.p10, p11 := fun _ => set_same (by have := h.siz; omega), p12 := rp hi h.p12 }⟩
                    · have hi : 12 < d.size := by omega
                      have e0 := h.p0 (hpre _ rfl ⟨0, .data⟩ (by simp) rfl)
                      have e1 := h.p1 (hpre _ rfl ⟨1, .data⟩ (by simp) rfl)
                      have hx1 : (i : Int) < (s.size : Int) + 1 := by omega
                      refine wpOp_plain rfl rfl ?_
                      go_simp
                      exact ⟨_, rfl, { bel := h.bel, siz := (by simpa using h.siz), kp := rk h.kp, k7 := rs h.k7, k8 := rs h.k8, k9 := rs h.k9, l10 := fun hj => (fun q => ⟨dn_up q.1, dn_up q.2⟩) (h.l10 (dn_of hi hj (by decide))), l11 := fun hj => dn_up (h.l11 (dn_of hi hj (by decide))), l13 := fun hj => dn_up (h.l13 (dn_of hi hj (by decide))), hp := fun hk => h.hp (fun q => hk (dn_up q)), q13 := fun hj => h.q13 (dn_of hi hj (by decide)), p0 := rp hi h.p0, p1 := rp hi h.p1, p2 := rp hi h.p2, p3 := rp hi h.p3, p4 := rp hi h.p4, p5 := rp hi h.p5, p6 := rp hi h.p6, p7 := rp hi h.p7, p8 := rp hi h.p8, p9 := rp hi h.p9, p10 := rp hi h.p10, p11 := rp hi h.p11, p12 := fun _ => set_same (by have := h.siz; omega) }⟩
                    · have hi : 13 < d.size := by omega
                      have d1 : dn d 12 := hpre _ rfl ⟨12, .data⟩ (by simp) rfl
                      have d2 : dn d 11 := hpre _ rfl ⟨11, .data⟩ (by simp) rfl
                      have e1 := h.p12 d1
                      have e2 := h.p11 d2
                      have hs0 := h.hp (not_dn hi hnd)
                      obtain ⟨ca, cb, cz⟩ := CG.out wc hs0
                      refine wpOp_plain rfl rfl ?_
                      go_simp
                      exact ⟨_, rfl, { bel := h.bel.setCell (Nat.le_refl _) _, siz := h.siz, kp := h.kp, k7 := h.k7, k8 := h.k8, k9 := h.k9, l10 := fun hj => (fun q => ⟨dn_up q.1, dn_up q.2⟩) (h.l10 (dn_of hi hj (by decide))), l11 := fun hj => dn_up (h.l11 (dn_of hi hj (by decide))), l13 := fun _ => dn_up d2, hp := fun hk => absurd (dn_self hi) hk, q13 := fun _ => by simp [World.setCell, hs0], p0 := rn hi h.p0, p1 := rn hi h.p1, p2 := rn hi h.p2, p3 := rn hi h.p3, p4 := rn hi h.p4, p5 := rn hi h.p5, p6 := rn hi h.p6, p7 := rn hi h.p7, p8 := rn hi h.p8, p9 := rn hi h.p9, p10 := rn hi h.p10, p11 := rn hi h.p11, p12 := rn hi h.p12 }⟩
                  case gendb =>
                    intro d a wc hd hI hall
                    obtain ⟨t, rfl, h⟩ := hI
                    have hdn : ∀ j, j < 14 → dn d j := fun j hj => dn_all hd hall hj
                    have hd : ∀ j, (_ : j < 14 := by decide) → dn d j := fun j hj => hdn j hj
                    have hq := h.q13 (hdn 13 (by omega))
                    have hfe := frame_eq [(64, _), (65, _), (66, _), (67, _), (68, _), (69, _), (70, _), (71, _), (72, _), (73, _), (74, _), (75, _), (76, _)] (h.siz.trans rfl) h.kp rfl ⟨h.p0 (hd 0), h.p1 (hd 1), h.p2 (hd 2), h.p3 (hd 3), h.p4 (hd 4), h.p5 (hd 5), h.p6 (hd 6), h.p7 (hd 7), h.p8 (hd 8), h.p9 (hd 9), h.p10 (hd 10), h.p11 (hd 11), h.p12 (hd 12), trivial⟩
                    simp only [List.foldl_cons, List.foldl_nil, List.setIfInBounds_toArray, List.set_cons_succ, List.set_cons_zero] at hfe
                    have hbc := h.bel
                    subst hfe
                    clear h hdn hd hall
                    have HBW := Lib.hid (HBZ.out.trans hbc)
                    have HRW9 : Hid (RdN wc G s.size (Lx.upd (Lx.rwayT (Lx.cR x s) s.size k) i (Lx.rwaysQ (Lx.cR x s) s.size k b (q + 1)))) := Lib.hid (by
                      have := HRZ.out.set (v := Lx.addTo va vb) (by omega) hq
                      rw [HN.out]
                      rwa [Lx.upd_upd] at this)
                    have hsc9 : wz.heap.size ≤ wc.heap.size := hbc.size
                    clear hbc hq
                    go_wp2_with fail
                    go_roundg (Lx.cR x s i tp - (q + 1))
                    case measure => omega
                    case rel => exact ⟨q + 1, by omega, rfl, by go_num, HBW.out, by omega, HRW9.out⟩
                · have HE : Hid (RdN wz G s.size (Lx.upd (Lx.rwayT (Lx.cR x s) s.size k) i (Lx.rwaysTo (Lx.cR x s) s.size k (b + 1)))) := Lib.hid (by
                    rw [Lx.rwaysTo_succ HLT.out, HTO.out, ← HK.out.1, show Lx.cR x s i tp = q by omega]; exact hrz)
                  clear hbz hrz
                  go_wp2_with fail
                  go_roundg (min (s.size - i) 24 - (b + 1))
                  case measure => omega
                  case rel => exact ⟨b + 1, tp + 1, by omega, rfl, by have := HTP.out; omega, by go_num, HBZ.out, hsz9, HE.out⟩
        · have HE : Hid (RdN wq G s.size (Lx.rwayT (Lx.cR x s) s.size (k + 1))) := Lib.hid (by
            have := Lx.rwayT_end (c := Lx.cR x s) (n := s.size) (k := k) (b := b) (by rw [← HK.out.1]; omega)
            rw [← HK.out.1] at this
            rw [← this]; exact HRQ.out)
          clear hbq hrq
          by_cases hto1 : (tp : Int) ≤ (s.size : Int)
          · have hto2 : ¬ (tp : Int) - (i : Int) ≤ 24 := by omega
            clear hto
            go_wp2_with fail
            go_roundg (s.size - (k + 1))
            case measure => have := HK.out; omega
            case rel => exact ⟨k + 1, (i : Int) - 1, HK.out.2, rfl, by have := HK.out; omega, rfl, HBQ.out, hsq, HE.out⟩
          · clear hto
            go_wp2_with fail
            go_roundg (s.size - (k + 1))
            case measure => have := HK.out; omega
            case rel => exact ⟨k + 1, (i : Int) - 1, HK.out.2, rfl, by have := HK.out; omega, rfl, HBQ.out, hsq, HE.out⟩
    · have hks : k = s.size := by omega
      have r0 : wr.cell? ⟨G, 0, none⟩ = some (.int .i64 (Lx.rwayT (Lx.cR x s) s.size s.size 0 : Nat)) := by rw [hks] at hrn; exact hrn.cell (Nat.zero_le _)
      clear hbel hrn
      go_wp2_with fail
      go_ret2
      exact ⟨rfl, HB1.out.trans (HBEL.out.mono (by rw [HG.out]; exact HB1.out.size))⟩
end Go.Proofs.YtpmfjndbckblfaaDoor
