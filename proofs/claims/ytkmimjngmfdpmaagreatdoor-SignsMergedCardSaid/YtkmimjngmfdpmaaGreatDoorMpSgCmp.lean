/- cmp.Compare at strings, cmp.Or, signs.compare. Made by gen_sgcmp.py. -/
import Derived.Test.YtkmimjngmfdpmaaGreatDoorMpSgTidyPlain
import Derived.Test.YtkmimjngmfdpmaaGreatDoorMpSgRead
import Derived.Test.YtkmimjngmfdpmaaGreatDoorMpTrimPlain
import Derived.Test.YtkmimjngmfdpmaaGreatDoorMpSgMeet
import Derived.BigQuiet
import Derived.Sort.Grow
import Derived.Test.YtkmimjngmfdpmaaGreatDoorMpBegin
namespace Go.Proofs.YtkmimjngmfdpmaaGreatDoor
open Go Go.RowKit

theorem rds_onC {α : Type} {w w' : World} {size : Nat} {enc : α → List Value} {v : Value} {xs : List α} (h : RdS w w.heap.size size enc v xs) (hb : Below w.heap.size w w') : RdS w' w'.heap.size size enc v xs := (h.below hb).more hb.size
theorem less_cb : ∀ x y : List UInt8, Op.bytesLess x y = decide (Lib.compareBytes x y < 0)
  | [], [] => rfl
  | [], _ :: _ => rfl
  | _ :: _, [] => rfl
  | a :: x, b :: y => by
    rw [Op.bytesLess, less_cb x y, Lib.compareBytes]
    by_cases h1 : a < b
    · simp [h1]
    · by_cases h2 : b < a
      · have hne : ¬ a = b := by rintro rfl; exact h1 h2
        simp [h1, h2, hne]
      · have he : a = b := by
          rw [UInt8.lt_iff_toNat_lt] at h1 h2
          exact UInt8.toNat_inj.1 (by omega)
        simp [he]
theorem cb_vals : ∀ x y : List UInt8, Lib.compareBytes x y = -1 ∨ Lib.compareBytes x y = 0 ∨ Lib.compareBytes x y = 1
  | [], [] => .inr (.inl rfl)
  | [], _ :: _ => .inl rfl
  | _ :: _, [] => .inr (.inr rfl)
  | a :: x, b :: y => by
    rw [Lib.compareBytes]
    split
    · exact .inl rfl
    · split
      · exact .inr (.inr rfl)
      · exact cb_vals x y
def RetI (n : Int) (w : World) (e : Ending) (w' : World) : Prop := e = .returned (.int .i64 n) ∧ w' = w
set_option maxRecDepth 100000 in
set_option maxHeartbeats 2000000 in
theorem isNaNs_any (s : ByteArray) (w : World) : Calls Tryz.prog 177 #[.string s] w (RetB false w) := by
  go_enter Tryz.func177, Tryz.ntmps177
  go_wp2_with fail
  go_ret
  exact ⟨by simp, rfl⟩
set_option maxRecDepth 100000 in
set_option maxHeartbeats 2000000 in
theorem cmpStr_any (a b : ByteArray) (w : World) : Calls Tryz.prog 150 #[.string a, .string b] w (RetI (Sg.cb a b) w) := by
  have h1 := less_cb a.toList b.toList
  have hv := cb_vals a.data.toList b.data.toList
  have HCB : Hid (Sg.cb a b = Lib.compareBytes a.data.toList b.data.toList) := Lib.hid rfl
  rw [Lx.toList_data, Lx.toList_data] at h1
  rcases hv with h | h | h
  · have hl : Op.bytesLess a.toList b.toList = true := by rw [Lx.toList_data, Lx.toList_data, h1, h]; rfl
    have HV : Hid (Sg.cb a b = -1) := Lib.hid (HCB.out.trans h)
    clear h1 h
    go_enter Tryz.func150, Tryz.ntmps150
    go_wp2_with fail
    refine (isNaNs_any a _).mono ?_
    rintro e w1 ⟨rfl, rfl⟩
    go_wp2_with fail
    refine (isNaNs_any b _).mono ?_
    rintro e w2 ⟨rfl, rfl⟩
    go_wp2_with fail
    go_ret
    exact ⟨ret_int HV.out.symm, rfl⟩
  · have hl : Op.bytesLess a.toList b.toList = false := by rw [Lx.toList_data, Lx.toList_data, h1, h]; rfl
    have he : (a.toList == b.toList) = true := by rw [beq_iff_eq, Lx.toList_data, Lx.toList_data]; exact Sg.cbL_eq h
    have HV : Hid (Sg.cb a b = 0) := Lib.hid (HCB.out.trans h)
    clear h1 h
    go_enter Tryz.func150, Tryz.ntmps150
    go_wp2_with fail
    refine (isNaNs_any a _).mono ?_
    rintro e w1 ⟨rfl, rfl⟩
    go_wp2_with fail
    refine (isNaNs_any b _).mono ?_
    rintro e w2 ⟨rfl, rfl⟩
    go_wp2_with fail
    go_ret
    exact ⟨ret_int HV.out.symm, rfl⟩
  · have hl : Op.bytesLess a.toList b.toList = false := by rw [Lx.toList_data, Lx.toList_data, h1, h]; rfl
    have he : (a.toList == b.toList) = false := by
      rw [beq_eq_false_iff_ne, Lx.toList_data, Lx.toList_data]
      intro e
      rw [e, Sg.cbL_self] at h
      cases h
    have HV : Hid (Sg.cb a b = 1) := Lib.hid (HCB.out.trans h)
    clear h1 h
    go_enter Tryz.func150, Tryz.ntmps150
    go_wp2_with fail
    refine (isNaNs_any a _).mono ?_
    rintro e w1 ⟨rfl, rfl⟩
    go_wp2_with fail
    refine (isNaNs_any b _).mono ?_
    rintro e w2 ⟨rfl, rfl⟩
    go_wp2_with fail
    go_ret
    exact ⟨ret_int HV.out.symm, rfl⟩
def Lx.orV : List Int → Int
  | [] => 0
  | a :: r => if a = 0 then orV r else a
theorem Lx.orV_drop {xs : List Int} {k : Nat} {a : Int} (h : xs[k]? = some a) : Lx.orV (xs.drop k) = if a = 0 then Lx.orV (xs.drop (k + 1)) else a := by
  obtain ⟨h1, rfl⟩ := List.getElem?_eq_some_iff.1 h
  rw [List.drop_eq_getElem_cons h1, Lx.orV]
set_option maxRecDepth 100000 in
set_option maxHeartbeats 2000000 in
theorem cmpOr_any (v : Value) (xs : List Int) (w : World) (B : Nat) (hv : RdS w B 1 encInt v xs) (hn : xs.length ≤ 1000) : Calls Tryz.prog 148 #[v] w (RetI (Lx.orV xs) w) := by
  obtain ⟨A, c, rfl, -, -, hat⟩ := hv
  have HAT := Lib.hid hat
  clear hat
  go_enter Tryz.func148, Tryz.ntmps148
  go_wp2_with fail
  go_loopg [8] xs.length (fun g i wr => ∃ k : Nat, k ≤ xs.length ∧ g = xs.length - k ∧ i = .int .i64 k ∧ wr = w ∧ Lx.orV xs = Lx.orV (xs.drop k))
  case atStart => exact ⟨0, Nat.zero_le _, rfl, rfl, rfl, rfl⟩
  case round =>
    obtain ⟨k, hk, rfl, rfl, rfl, heq⟩ := hrel
    have HEQ := Lib.hid heq
    clear heq
    by_cases hlt : k < xs.length
    · have hltI : (k : Int) < (xs.length : Int) := by omega
      obtain ⟨a, ha⟩ : ∃ a, xs[k]? = some a := ⟨_, List.getElem?_eq_getElem hlt⟩
      obtain ⟨b, off, rfl, hb, hc⟩ := HAT.out (by omega)
      have y0 : wr.cell? ⟨b, off + k, none⟩ = some (.int .i64 a) := by
        have h := hc k a ha 0 _ rfl
        rwa [Nat.mul_one, Nat.add_zero] at h
      have HN : Hid (Lx.orV xs = if a = 0 then Lx.orV (xs.drop (k + 1)) else a) := Lib.hid (HEQ.out.trans (Lx.orV_drop ha))
      clear hc ha
      by_cases h0 : a = 0
      · have hq : (a == 0) = true := by simp [h0]
        have hq' : (a != 0) = false := by simp [h0]
        have HN2 : Hid (Lx.orV xs = Lx.orV (xs.drop (k + 1))) := Lib.hid (by rw [HN.out, if_pos h0])
        clear h0
        go_wp2_with fail
        go_roundg (xs.length - (k + 1))
        case measure => omega
        case rel => exact ⟨k + 1, by omega, rfl, by go_num, rfl, HN2.out⟩
      · have hq : (a == 0) = false := by simp [h0]
        have hq' : (a != 0) = true := by simp [h0]
        have HN2 : Hid (Lx.orV xs = a) := Lib.hid (by rw [HN.out, if_neg h0])
        clear h0
        go_wp2_with fail
        go_ret
        exact ⟨ret_int HN2.out.symm, rfl⟩
    · have hltI : ¬ (k : Int) < (xs.length : Int) := by omega
      have HN2 : Hid (Lx.orV xs = 0) := Lib.hid (by rw [HEQ.out, List.drop_eq_nil_of_le (by omega)]; rfl)
      go_wp2_with fail
      go_ret
      exact ⟨ret_int HN2.out.symm, rfl⟩

/-- how two values compare -/
def Sg.cmpV (a b : Sg.Value) : Int := Lx.orV [Lib.compareInt a.kind b.kind, Sg.cb a.text b.text, Lib.compareInt a.lo b.lo]
structure LcpR (T0 : Array Value) (W0 : World) (ba bb : Nat) (ka kb la lb : Int) (ta tb : ByteArray) (c1 c2 c3 r : Int) (d : Array Bool) (t : Array Value) (wc : World) : Prop where
  bel : Below W0.heap.size W0 wc
  siz : t.size = 22
  kp : ∀ i, i ∉ ([4, 5, 6, 7, 8, 9, 10, 11, 12, 13, 14, 15, 16, 17, 18, 19, 20, 21] : List Nat) → t[i]? = T0[i]?
  k2 : t[2]? = some (.pointer (some ⟨ba, 0, none⟩))
  k3 : t[3]? = some (.pointer (some ⟨bb, 0, none⟩))
  p0 : dn d 0 → t[5]? = some (.pointer (some ⟨ba, 0, none⟩))
  p1 : dn d 1 → t[6]? = some (.int .i64 ka)
  p2 : dn d 2 → t[7]? = some (.pointer (some ⟨bb, 0, none⟩))
  p3 : dn d 3 → t[8]? = some (.int .i64 kb)
  p4 : dn d 4 → t[9]? = some (.int .i64 c1)
  p5 : dn d 5 → t[10]? = some (.pointer (some ⟨ba, 1, none⟩))
  p6 : dn d 6 → t[11]? = some (.string ta)
  p7 : dn d 7 → t[12]? = some (.pointer (some ⟨bb, 1, none⟩))
  p8 : dn d 8 → t[13]? = some (.string tb)
  p9 : dn d 9 → t[14]? = some (.int .i64 c2)
  p10 : dn d 10 → t[15]? = some (.pointer (some ⟨ba, 2, none⟩))
  p11 : dn d 11 → t[16]? = some (.int .i64 la)
  p12 : dn d 12 → t[17]? = some (.pointer (some ⟨bb, 2, none⟩))
  p13 : dn d 13 → t[18]? = some (.int .i64 lb)
  p14 : dn d 14 → t[19]? = some (.int .i64 c3)
  p15 : dn d 15 → ∃ v, t[20]? = some v ∧ RdS wc wc.heap.size 1 encInt v [c1, c2, c3]
  p16 : dn d 16 → t[21]? = some (.int .i64 r)
  p17 : dn d 17 → t[4]? = some (.int .i64 r)
  gw : ∃ (q : Nat) (os : Array Obj), wc = Sort.grow (W0.drewN q) os
def LcpI (T0 : Array Value) (W0 : World) (ba bb : Nat) (ka kb la lb : Int) (ta tb : ByteArray) (c1 c2 c3 r : Int) (d : Array Bool) (a : Act) (wc : World) : Prop := ∃ t : Array Value, a = ⟨t, []⟩ ∧ LcpR T0 W0 ba bb ka kb la lb ta tb c1 c2 c3 r d t wc
def RetGrow (n : Int) (w : World) (e : Ending) (w' : World) : Prop := e = .returned (.int .i64 n) ∧ ∃ (q : Nat) (os : Array Obj), w' = Sort.grow (w.drewN q) os
set_option maxRecDepth 100000 in
set_option maxHeartbeats 8000000 in
theorem gCompare_any (a b : Sg.Value) (w : World) : Calls Tryz.prog 122 #[.agg #[.int .i64 a.kind, .string a.text, .int .i64 a.lo, .int .i64 a.hi], .agg #[.int .i64 b.kind, .string b.text, .int .i64 b.lo, .int .i64 b.hi]] w (RetGrow (Sg.cmpV a b) w) := by
  obtain ⟨ka, ta, la, ha⟩ := a
  obtain ⟨kb, tb, lb, hb⟩ := b
  obtain ⟨W1, hW1⟩ : ∃ W1, W1 = (w.alloc (.cells #[.int .i64 ka, .string ta, .int .i64 la, .int .i64 ha] 60)).alloc (.cells #[.int .i64 kb, .string tb, .int .i64 lb, .int .i64 hb] 60) := ⟨_, rfl⟩
  have hgr : W1 = Sort.grow w #[.cells #[.int .i64 ka, .string ta, .int .i64 la, .int .i64 ha] 60, .cells #[.int .i64 kb, .string tb, .int .i64 lb, .int .i64 hb] 60] := by
    rw [hW1, Sort.alloc_eq_grow, Sort.alloc_eq_grow, Sort.grow_grow]; rfl
  have hX : W1.heap[w.heap.size]? = some (.cells #[.int .i64 ka, .string ta, .int .i64 la, .int .i64 ha] 60 (0, 0)) := by rw [hW1]; exact start_fst w _ _
  have hY : W1.heap[w.heap.size + 1]? = some (.cells #[.int .i64 kb, .string tb, .int .i64 lb, .int .i64 hb] 60 (0, 0)) := by rw [hW1]; exact start_res' w _ _
  have hs1 : w.heap.size + 1 < W1.heap.size := (Array.getElem?_eq_some_iff.1 hY).1
  obtain ⟨bb, hbb⟩ : ∃ bb, bb = w.heap.size + 1 := ⟨_, rfl⟩
  have CQ : Hid (∀ W, Below W1.heap.size W1 W → W.cell? ⟨w.heap.size, 0, none⟩ = some (.int .i64 ka) ∧ W.cell? ⟨w.heap.size, 1, none⟩ = some (.string ta) ∧ W.cell? ⟨w.heap.size, 2, none⟩ = some (.int .i64 la) ∧ W.cell? ⟨bb, 0, none⟩ = some (.int .i64 kb) ∧ W.cell? ⟨bb, 1, none⟩ = some (.string tb) ∧ W.cell? ⟨bb, 2, none⟩ = some (.int .i64 lb)) := Lib.hid fun W hW => by
    have p := (hW.block _ (by omega)).trans hX
    have p' := (hW.block _ hs1).trans hY
    rw [← hbb] at p'
    exact ⟨by simp [World.cell?, p], by simp [World.cell?, p], by simp [World.cell?, p], by simp [World.cell?, p'], by simp [World.cell?, p'], by simp [World.cell?, p']⟩
  obtain ⟨c1, hc1⟩ : ∃ c, c = Lib.compareInt ka kb := ⟨_, rfl⟩
  obtain ⟨c2, hc2⟩ : ∃ c, c = Sg.cb ta tb := ⟨_, rfl⟩
  obtain ⟨c3, hc3⟩ : ∃ c, c = Lib.compareInt la lb := ⟨_, rfl⟩
  obtain ⟨r, hr⟩ : ∃ r, r = Lx.orV [c1, c2, c3] := ⟨_, rfl⟩
  have HC1 := Lib.hid fun W => Tryz.cmp_Compare_int ka kb W
  have HC2 := Lib.hid fun W => cmpStr_any ta tb W
  have HC3 := Lib.hid fun W => Tryz.cmp_Compare_int la lb W
  have HOR := Lib.hid fun (W : World) (y : Value) (hy : RdS W W.heap.size 1 encInt y [c1, c2, c3]) => cmpOr_any y [c1, c2, c3] W _ hy (by simp)
  rw [← hc1] at HC1
  rw [← hc2] at HC2
  rw [← hc3] at HC3
  rw [← hr] at HOR
  have HRV : Hid (Sg.cmpV ⟨ka, ta, la, ha⟩ ⟨kb, tb, lb, hb⟩ = r) := Lib.hid (by rw [hr, hc1, hc2, hc3]; rfl)
  have HW1 := Lib.hid hW1
  have HGR := Lib.hid hgr
  have HBB := Lib.hid hbb
  generalize Sg.cmpV ⟨ka, ta, la, ha⟩ ⟨kb, tb, lb, hb⟩ = res at HRV ⊢
  clear hW1 hgr hX hY hbb hc1 hc2 hc3 hr hs1
  go_enter Tryz.func122, Tryz.ntmps122
  go_upto_region 1 with fail
  rw [← HW1.out, ← HBB.out]
  refine wp_region_inv2T (fun T0 => LcpI T0 W1 w.heap.size bb ka kb la lb ta tb c1 c2 c3 r) (by kernel_rfl) (by kernel_rfl) ?g0a ?gstepa ?genda
  case g0a =>
    have hno : ∀ j, ¬ dn (Array.replicate 18 false) j := by
      intro j; unfold dn; by_cases hj : j < 18 <;> simp [Array.getD, hj]
    have na : ∀ {j : Nat} {Z : Prop}, dn (Array.replicate 18 false) j → Z := fun hj => absurd hj (hno _)
    exact ⟨_, rfl, { bel := (Below.refl _ _).drew, siz := rfl, kp := fun _ _ => rfl, k2 := rfl, k3 := rfl, p0 := na, p1 := na, p2 := na, p3 := na, p4 := na, p5 := na, p6 := na, p7 := na, p8 := na, p9 := na, p10 := na, p11 := na, p12 := na, p13 := na, p14 := na, p15 := fun hj => absurd hj (hno _), p16 := na, p17 := na, gw := ⟨1, #[], by rw [Sort.grow_empty]; rfl⟩ }⟩
  case gstepa =>
    intro T0 d a wc i hd hI hi
    obtain ⟨hlt, hnd, hpre⟩ := mem_ready hi
    have hd' : d.size = 18 := hd
    have hin : i < 18 := hlt
    clear hi hd hlt
    obtain ⟨t, rfl, h⟩ := hI
    have hcs : i = 0 ∨ i = 1 ∨ i = 2 ∨ i = 3 ∨ i = 4 ∨ i = 5 ∨ i = 6 ∨ i = 7 ∨ i = 8 ∨ i = 9 ∨ i = 10 ∨ i = 11 ∨ i = 12 ∨ i = 13 ∨ i = 14 ∨ i = 15 ∨ i = 16 ∨ i = 17 := by omega
    rcases hcs with rfl | rfl | rfl | rfl | rfl | rfl | rfl | rfl | rfl | rfl | rfl | rfl | rfl | rfl | rfl | rfl | rfl | rfl
    · have hi : 0 < d.size := by omega
      have q2 := h.k2
      refine wpOp_plain rfl rfl ?_
      go_simp
      exact ⟨_, rfl, { bel := h.bel, siz := (by simpa using h.siz), kp := rk h.kp, k2 := rs h.k2, k3 := rs h.k3, gw := h.gw, p0 := fun _ => set_same (by have := h.siz; omega), p1 := rp hi h.p1, p2 := rp hi h.p2, p3 := rp hi h.p3, p4 := rp hi h.p4, p5 := rp hi h.p5, p6 := rp hi h.p6, p7 := rp hi h.p7, p8 := rp hi h.p8, p9 := rp hi h.p9, p10 := rp hi h.p10, p11 := rp hi h.p11, p12 := rp hi h.p12, p13 := rp hi h.p13, p14 := rp hi h.p14, p15 := rc hi h.p15 (fun v h2 => rds_onC h2 (Below.refl _ _)), p16 := rp hi h.p16, p17 := rp hi h.p17 }⟩
    · have hi : 1 < d.size := by omega
      have e0 := h.p0 (hpre _ rfl ⟨0, .data⟩ (by simp) rfl)
      obtain ⟨m0, m1, m2, n0, n1, n2⟩ := CQ.out wc h.bel
      refine wpOp_plain rfl rfl ?_
      go_simp
      exact ⟨_, rfl, { bel := h.bel, siz := (by simpa using h.siz), kp := rk h.kp, k2 := rs h.k2, k3 := rs h.k3, gw := h.gw, p0 := rp hi h.p0, p1 := fun _ => set_same (by have := h.siz; omega), p2 := rp hi h.p2, p3 := rp hi h.p3, p4 := rp hi h.p4, p5 := rp hi h.p5, p6 := rp hi h.p6, p7 := rp hi h.p7, p8 := rp hi h.p8, p9 := rp hi h.p9, p10 := rp hi h.p10, p11 := rp hi h.p11, p12 := rp hi h.p12, p13 := rp hi h.p13, p14 := rp hi h.p14, p15 := rc hi h.p15 (fun v h2 => rds_onC h2 (Below.refl _ _)), p16 := rp hi h.p16, p17 := rp hi h.p17 }⟩
    · have hi : 2 < d.size := by omega
      have q3 := h.k3
      refine wpOp_plain rfl rfl ?_
      go_simp
      exact ⟨_, rfl, { bel := h.bel, siz := (by simpa using h.siz), kp := rk h.kp, k2 := rs h.k2, k3 := rs h.k3, gw := h.gw, p0 := rp hi h.p0, p1 := rp hi h.p1, p2 := fun _ => set_same (by have := h.siz; omega), p3 := rp hi h.p3, p4 := rp hi h.p4, p5 := rp hi h.p5, p6 := rp hi h.p6, p7 := rp hi h.p7, p8 := rp hi h.p8, p9 := rp hi h.p9, p10 := rp hi h.p10, p11 := rp hi h.p11, p12 := rp hi h.p12, p13 := rp hi h.p13, p14 := rp hi h.p14, p15 := rc hi h.p15 (fun v h2 => rds_onC h2 (Below.refl _ _)), p16 := rp hi h.p16, p17 := rp hi h.p17 }⟩
    · have hi : 3 < d.size := by omega
      have e2 := h.p2 (hpre _ rfl ⟨2, .data⟩ (by simp) rfl)
      obtain ⟨m0, m1, m2, n0, n1, n2⟩ := CQ.out wc h.bel
      refine wpOp_plain rfl rfl ?_
      go_simp
      exact ⟨_, rfl, { bel := h.bel, siz := (by simpa using h.siz), kp := rk h.kp, k2 := rs h.k2, k3 := rs h.k3, gw := h.gw, p0 := rp hi h.p0, p1 := rp hi h.p1, p2 := rp hi h.p2, p3 := fun _ => set_same (by have := h.siz; omega), p4 := rp hi h.p4, p5 := rp hi h.p5, p6 := rp hi h.p6, p7 := rp hi h.p7, p8 := rp hi h.p8, p9 := rp hi h.p9, p10 := rp hi h.p10, p11 := rp hi h.p11, p12 := rp hi h.p12, p13 := rp hi h.p13, p14 := rp hi h.p14, p15 := rc hi h.p15 (fun v h2 => rds_onC h2 (Below.refl _ _)), p16 := rp hi h.p16, p17 := rp hi h.p17 }⟩
    · have hi : 4 < d.size := by omega
      have e1 := h.p1 (hpre _ rfl ⟨1, .data⟩ (by simp) rfl)
      have e3 := h.p3 (hpre _ rfl ⟨3, .data⟩ (by simp) rfl)
      refine wpOp_plain rfl rfl ?_
      go_simp
      refine (HC1.out wc).mono ?_
      rintro e1 w1 ⟨rfl, rfl⟩
      exact ⟨_, rfl, { bel := h.bel, siz := (by simpa using h.siz), kp := rk h.kp, k2 := rs h.k2, k3 := rs h.k3, gw := h.gw, p0 := rp hi h.p0, p1 := rp hi h.p1, p2 := rp hi h.p2, p3 := rp hi h.p3, p4 := fun _ => set_same (by have := h.siz; omega), p5 := rp hi h.p5, p6 := rp hi h.p6, p7 := rp hi h.p7, p8 := rp hi h.p8, p9 := rp hi h.p9, p10 := rp hi h.p10, p11 := rp hi h.p11, p12 := rp hi h.p12, p13 := rp hi h.p13, p14 := rp hi h.p14, p15 := rc hi h.p15 (fun v h2 => rds_onC h2 (Below.refl _ _)), p16 := rp hi h.p16, p17 := rp hi h.p17 }⟩
    · have hi : 5 < d.size := by omega
      have q2 := h.k2
      refine wpOp_plain rfl rfl ?_
      go_simp
      exact ⟨_, rfl, { bel := h.bel, siz := (by simpa using h.siz), kp := rk h.kp, k2 := rs h.k2, k3 := rs h.k3, gw := h.gw, p0 := rp hi h.p0, p1 := rp hi h.p1, p2 := rp hi h.p2, p3 := rp hi h.p3, p4 := rp hi h.p4, p5 := fun _ => set_same (by have := h.siz; omega), p6 := rp hi h.p6, p7 := rp hi h.p7, p8 := rp hi h.p8, p9 := rp hi h.p9, p10 := rp hi h.p10, p11 := rp hi h.p11, p12 := rp hi h.p12, p13 := rp hi h.p13, p14 := rp hi h.p14, p15 := rc hi h.p15 (fun v h2 => rds_onC h2 (Below.refl _ _)), p16 := rp hi h.p16, p17 := rp hi h.p17 }⟩
    · have hi : 6 < d.size := by omega
      have e5 := h.p5 (hpre _ rfl ⟨5, .data⟩ (by simp) rfl)
      obtain ⟨m0, m1, m2, n0, n1, n2⟩ := CQ.out wc h.bel
      refine wpOp_plain rfl rfl ?_
      go_simp
      exact ⟨_, rfl, { bel := h.bel, siz := (by simpa using h.siz), kp := rk h.kp, k2 := rs h.k2, k3 := rs h.k3, gw := h.gw, p0 := rp hi h.p0, p1 := rp hi h.p1, p2 := rp hi h.p2, p3 := rp hi h.p3, p4 := rp hi h.p4, p5 := rp hi h.p5, p6 := fun _ => set_same (by have := h.siz; omega), p7 := rp hi h.p7, p8 := rp hi h.p8, p9 := rp hi h.p9, p10 := rp hi h.p10, p11 := rp hi h.p11, p12 := rp hi h.p12, p13 := rp hi h.p13, p14 := rp hi h.p14, p15 := rc hi h.p15 (fun v h2 => rds_onC h2 (Below.refl _ _)), p16 := rp hi h.p16, p17 := rp hi h.p17 }⟩
    · have hi : 7 < d.size := by omega
      have q3 := h.k3
      refine wpOp_plain rfl rfl ?_
      go_simp
      exact ⟨_, rfl, { bel := h.bel, siz := (by simpa using h.siz), kp := rk h.kp, k2 := rs h.k2, k3 := rs h.k3, gw := h.gw, p0 := rp hi h.p0, p1 := rp hi h.p1, p2 := rp hi h.p2, p3 := rp hi h.p3, p4 := rp hi h.p4, p5 := rp hi h.p5, p6 := rp hi h.p6, p7 := fun _ => set_same (by have := h.siz; omega), p8 := rp hi h.p8, p9 := rp hi h.p9, p10 := rp hi h.p10, p11 := rp hi h.p11, p12 := rp hi h.p12, p13 := rp hi h.p13, p14 := rp hi h.p14, p15 := rc hi h.p15 (fun v h2 => rds_onC h2 (Below.refl _ _)), p16 := rp hi h.p16, p17 := rp hi h.p17 }⟩
    · have hi : 8 < d.size := by omega
      have e7 := h.p7 (hpre _ rfl ⟨7, .data⟩ (by simp) rfl)
      obtain ⟨m0, m1, m2, n0, n1, n2⟩ := CQ.out wc h.bel
      refine wpOp_plain rfl rfl ?_
      go_simp
      exact ⟨_, rfl, { bel := h.bel, siz := (by simpa using h.siz), kp := rk h.kp, k2 := rs h.k2, k3 := rs h.k3, gw := h.gw, p0 := rp hi h.p0, p1 := rp hi h.p1, p2 := rp hi h.p2, p3 := rp hi h.p3, p4 := rp hi h.p4, p5 := rp hi h.p5, p6 := rp hi h.p6, p7 := rp hi h.p7, p8 := fun _ => set_same (by have := h.siz; omega), p9 := rp hi h.p9, p10 := rp hi h.p10, p11 := rp hi h.p11, p12 := rp hi h.p12, p13 := rp hi h.p13, p14 := rp hi h.p14, p15 := rc hi h.p15 (fun v h2 => rds_onC h2 (Below.refl _ _)), p16 := rp hi h.p16, p17 := rp hi h.p17 }⟩
    · have hi : 9 < d.size := by omega
      have e6 := h.p6 (hpre _ rfl ⟨6, .data⟩ (by simp) rfl)
      have e8 := h.p8 (hpre _ rfl ⟨8, .data⟩ (by simp) rfl)
      refine wpOp_plain rfl rfl ?_
      go_simp
      refine (HC2.out wc).mono ?_
      rintro e1 w1 ⟨rfl, rfl⟩
      exact ⟨_, rfl, { bel := h.bel, siz := (by simpa using h.siz), kp := rk h.kp, k2 := rs h.k2, k3 := rs h.k3, gw := h.gw, p0 := rp hi h.p0, p1 := rp hi h.p1, p2 := rp hi h.p2, p3 := rp hi h.p3, p4 := rp hi h.p4, p5 := rp hi h.p5, p6 := rp hi h.p6, p7 := rp hi h.p7, p8 := rp hi h.p8, p9 := fun _ => set_same (by have := h.siz; omega), p10 := rp hi h.p10, p11 := rp hi h.p11, p12 := rp hi h.p12, p13 := rp hi h.p13, p14 := rp hi h.p14, p15 := rc hi h.p15 (fun v h2 => rds_onC h2 (Below.refl _ _)), p16 := rp hi h.p16, p17 := rp hi h.p17 }⟩
    · have hi : 10 < d.size := by omega
      have q2 := h.k2
      refine wpOp_plain rfl rfl ?_
      go_simp
      exact ⟨_, rfl, { bel := h.bel, siz := (by simpa using h.siz), kp := rk h.kp, k2 := rs h.k2, k3 := rs h.k3, gw := h.gw, p0 := rp hi h.p0, p1 := rp hi h.p1, p2 := rp hi h.p2, p3 := rp hi h.p3, p4 := rp hi h.p4, p5 := rp hi h.p5, p6 := rp hi h.p6, p7 := rp hi h.p7, p8 := rp hi h.p8, p9 := rp hi h.p9, p10 := fun _ => set_same (by have := h.siz; omega), p11 := rp hi h.p11, p12 := rp hi h.p12, p13 := rp hi h.p13, p14 := rp hi h.p14, p15 := rc hi h.p15 (fun v h2 => rds_onC h2 (Below.refl _ _)), p16 := rp hi h.p16, p17 := rp hi h.p17 }⟩
    · have hi : 11 < d.size := by omega
      have e10 := h.p10 (hpre _ rfl ⟨10, .data⟩ (by simp) rfl)
      obtain ⟨m0, m1, m2, n0, n1, n2⟩ := CQ.out wc h.bel
      refine wpOp_plain rfl rfl ?_
      go_simp
      exact ⟨_, rfl, { bel := h.bel, siz := (by simpa using h.siz), kp := rk h.kp, k2 := rs h.k2, k3 := rs h.k3, gw := h.gw, p0 := rp hi h.p0, p1 := rp hi h.p1, p2 := rp hi h.p2, p3 := rp hi h.p3, p4 := rp hi h.p4, p5 := rp hi h.p5, p6 := rp hi h.p6, p7 := rp hi h.p7, p8 := rp hi h.p8, p9 := rp hi h.p9, p10 := rp hi h.p10, p11 := fun _ => set_same (by have := h.siz; omega), p12 := rp hi h.p12, p13 := rp hi h.p13, p14 := rp hi h.p14, p15 := rc hi h.p15 (fun v h2 => rds_onC h2 (Below.refl _ _)), p16 := rp hi h.p16, p17 := rp hi h.p17 }⟩
    · have hi : 12 < d.size := by omega
      have q3 := h.k3
      refine wpOp_plain rfl rfl ?_
      go_simp
      exact ⟨_, rfl, { bel := h.bel, siz := (by simpa using h.siz), kp := rk h.kp, k2 := rs h.k2, k3 := rs h.k3, gw := h.gw, p0 := rp hi h.p0, p1 := rp hi h.p1, p2 := rp hi h.p2, p3 := rp hi h.p3, p4 := rp hi h.p4, p5 := rp hi h.p5, p6 := rp hi h.p6, p7 := rp hi h.p7, p8 := rp hi h.p8, p9 := rp hi h.p9, p10 := rp hi h.p10, p11 := rp hi h.p11, p12 := fun _ => set_same (by have := h.siz; omega), p13 := rp hi h.p13, p14 := rp hi h.p14, p15 := rc hi h.p15 (fun v h2 => rds_onC h2 (Below.refl _ _)), p16 := rp hi h.p16, p17 := rp hi h.p17 }⟩
    · have hi : 13 < d.size := by omega
      have e12 := h.p12 (hpre _ rfl ⟨12, .data⟩ (by simp) rfl)
      obtain ⟨m0, m1, m2, n0, n1, n2⟩ := CQ.out wc h.bel
      refine wpOp_plain rfl rfl ?_
      go_simp
      exact ⟨_, rfl, { bel := h.bel, siz := (by simpa using h.siz), kp := rk h.kp, k2 := rs h.k2, k3 := rs h.k3, gw := h.gw, p0 := rp hi h.p0, p1 := rp hi h.p1, p2 := rp hi h.p2, p3 := rp hi h.p3, p4 := rp hi h.p4, p5 := rp hi h.p5, p6 := rp hi h.p6, p7 := rp hi h.p7, p8 := rp hi h.p8, p9 := rp hi h.p9, p10 := rp hi h.p10, p11 := rp hi h.p11, p12 := rp hi h.p12, p13 := fun _ => set_same (by have := h.siz; omega), p14 := rp hi h.p14, p15 := rc hi h.p15 (fun v h2 => rds_onC h2 (Below.refl _ _)), p16 := rp hi h.p16, p17 := rp hi h.p17 }⟩
    · have hi : 14 < d.size := by omega
      have e11 := h.p11 (hpre _ rfl ⟨11, .data⟩ (by simp) rfl)
      have e13 := h.p13 (hpre _ rfl ⟨13, .data⟩ (by simp) rfl)
      refine wpOp_plain rfl rfl ?_
      go_simp
      refine (HC3.out wc).mono ?_
      rintro e1 w1 ⟨rfl, rfl⟩
      exact ⟨_, rfl, { bel := h.bel, siz := (by simpa using h.siz), kp := rk h.kp, k2 := rs h.k2, k3 := rs h.k3, gw := h.gw, p0 := rp hi h.p0, p1 := rp hi h.p1, p2 := rp hi h.p2, p3 := rp hi h.p3, p4 := rp hi h.p4, p5 := rp hi h.p5, p6 := rp hi h.p6, p7 := rp hi h.p7, p8 := rp hi h.p8, p9 := rp hi h.p9, p10 := rp hi h.p10, p11 := rp hi h.p11, p12 := rp hi h.p12, p13 := rp hi h.p13, p14 := fun _ => set_same (by have := h.siz; omega), p15 := rc hi h.p15 (fun v h2 => rds_onC h2 (Below.refl _ _)), p16 := rp hi h.p16, p17 := rp hi h.p17 }⟩
    · have hi : 15 < d.size := by omega
      have e4 := h.p4 (hpre _ rfl ⟨4, .data⟩ (by simp) rfl)
      have e9 := h.p9 (hpre _ rfl ⟨9, .data⟩ (by simp) rfl)
      have e14 := h.p14 (hpre _ rfl ⟨14, .data⟩ (by simp) rfl)
      refine wpOp_plain rfl rfl ?_
      go_simp
      have hb : Below wc.heap.size wc (wc.alloc (.cells #[.int .i64 c1, .int .i64 c2, .int .i64 c3] 3)) := (Below.refl _ _).alloc (Nat.le_refl _) _
      exact ⟨_, rfl, { bel := h.bel.trans (hb.mono h.bel.size), siz := (by simpa using h.siz), kp := rk h.kp, k2 := rs h.k2, k3 := rs h.k3, gw := by obtain ⟨q, os, hq⟩ := h.gw; exact ⟨q, _, by rw [hq, Sort.alloc_eq_grow, Sort.grow_grow]⟩, p0 := rp hi h.p0, p1 := rp hi h.p1, p2 := rp hi h.p2, p3 := rp hi h.p3, p4 := rp hi h.p4, p5 := rp hi h.p5, p6 := rp hi h.p6, p7 := rp hi h.p7, p8 := rp hi h.p8, p9 := rp hi h.p9, p10 := rp hi h.p10, p11 := rp hi h.p11, p12 := rp hi h.p12, p13 := rp hi h.p13, p14 := rp hi h.p14, p15 := fun _ => ⟨_, set_same (by have := h.siz; omega), rds_block (xs := [c1, c2, c3]) len_int (heap_alloc_new _ _) rfl (by simp) (Nat.le_refl 3) (by decide)⟩, p16 := rp hi h.p16, p17 := rp hi h.p17 }⟩
    · have hi : 16 < d.size := by omega
      obtain ⟨v15, e15, r15⟩ := h.p15 (hpre _ rfl ⟨15, .data⟩ (by simp) rfl)
      refine wpOp_plain rfl rfl ?_
      go_simp
      refine (HOR.out wc v15 r15).mono ?_
      rintro e1 w1 ⟨rfl, rfl⟩
      exact ⟨_, rfl, { bel := h.bel, siz := (by simpa using h.siz), kp := rk h.kp, k2 := rs h.k2, k3 := rs h.k3, gw := h.gw, p0 := rp hi h.p0, p1 := rp hi h.p1, p2 := rp hi h.p2, p3 := rp hi h.p3, p4 := rp hi h.p4, p5 := rp hi h.p5, p6 := rp hi h.p6, p7 := rp hi h.p7, p8 := rp hi h.p8, p9 := rp hi h.p9, p10 := rp hi h.p10, p11 := rp hi h.p11, p12 := rp hi h.p12, p13 := rp hi h.p13, p14 := rp hi h.p14, p15 := rc hi h.p15 (fun v h2 => rds_onC h2 (Below.refl _ _)), p16 := fun _ => set_same (by have := h.siz; omega), p17 := rp hi h.p17 }⟩
    · have hi : 17 < d.size := by omega
      have e16 := h.p16 (hpre _ rfl ⟨16, .data⟩ (by simp) rfl)
      refine wpOp_plain rfl rfl ?_
      go_simp
      exact ⟨_, rfl, { bel := h.bel, siz := (by simpa using h.siz), kp := rk h.kp, k2 := rs h.k2, k3 := rs h.k3, gw := h.gw, p0 := rp hi h.p0, p1 := rp hi h.p1, p2 := rp hi h.p2, p3 := rp hi h.p3, p4 := rp hi h.p4, p5 := rp hi h.p5, p6 := rp hi h.p6, p7 := rp hi h.p7, p8 := rp hi h.p8, p9 := rp hi h.p9, p10 := rp hi h.p10, p11 := rp hi h.p11, p12 := rp hi h.p12, p13 := rp hi h.p13, p14 := rp hi h.p14, p15 := rc hi h.p15 (fun v h2 => rds_onC h2 (Below.refl _ _)), p16 := rp hi h.p16, p17 := fun _ => set_same (by have := h.siz; omega) }⟩
  case genda =>
    intro d a wc hd hI hall
    obtain ⟨t, rfl, h⟩ := hI
    have hdn : ∀ j, j < 18 → dn d j := fun j hj => dn_all hd hall hj
    have hd : ∀ j, (_ : j < 18 := by decide) → dn d j := fun j hj => hdn j hj
    obtain ⟨v15, e15, r15⟩ := h.p15 (hd 15)
    have hgw := h.gw
    have hfe := frame_eq [(4, _), (5, _), (6, _), (7, _), (8, _), (9, _), (10, _), (11, _), (12, _), (13, _), (14, _), (15, _), (16, _), (17, _), (18, _), (19, _), (20, v15), (21, _)] (h.siz.trans rfl) h.kp rfl ⟨h.p17 (hd 17), h.p0 (hd 0), h.p1 (hd 1), h.p2 (hd 2), h.p3 (hd 3), h.p4 (hd 4), h.p5 (hd 5), h.p6 (hd 6), h.p7 (hd 7), h.p8 (hd 8), h.p9 (hd 9), h.p10 (hd 10), h.p11 (hd 11), h.p12 (hd 12), h.p13 (hd 13), h.p14 (hd 14), e15, h.p16 (hd 16), trivial⟩
    simp only [List.foldl_cons, List.foldl_nil, List.setIfInBounds_toArray, List.set_cons_succ, List.set_cons_zero] at hfe
    have hbc := h.bel
    subst hfe
    clear h hdn hd hall
    clear hbc r15
    go_wp2_with fail
    go_ret
    obtain ⟨q, os, rfl⟩ := hgw
    have hfin : ∃ os', Sort.grow (W1.drewN q) os = Sort.grow (w.drewN q) os' := by
      rw [HGR.out]
      exact ⟨_, Sort.grow_grow (w.drewN q) _ os⟩
    obtain ⟨os', hos⟩ := hfin
    exact ⟨ret_int HRV.out.symm, q, os', hos⟩
end Go.Proofs.YtkmimjngmfdpmaaGreatDoor
