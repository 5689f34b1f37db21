/- ostraconref01.less, put. Made by gen_sgput.py. DERIVED: THE SHELF's CONTRACTS AT THIS DUMP, IN PLAIN WORDS (tools/lay-plain.mjs out of 'TryzShelf.lean', which tools/lay-shelf.mjs wrote): THE SAME DECLARATIONS UNDER THE SAME NAMES: 'import', 'namespace', 'open', 'def', 'theorem' AND NOTHING ELSE: no command of the shelf's: FOR A HAND-IN. Each laying: the table of numbers ('.._ren') and one .. -/
import Derived.Test.YtkmimjngmfdpmaaGreatDoorMoSgCmp
import Derived.Test.YtkmimjngmfdpmaaGreatDoorMoSgSame
import Derived.Test.YtkmimjngmfdpmaaGreatDoorMoTrimPlain
import Derived.Shelf.SlSortCmp.NoneTotal
import Derived.Shelf.SlSortCmp.WholeK
import Derived.Shelf.SlicesE.Clone
import Derived.Test.YtkmimjngmfdpmaaGreatDoorProg
import Derived.Lib.OwnBridge
namespace Go.Proofs.YtkmimjngmfdpmaaGreatDoor
open Go Go.RowKit

theorem bytesLess_cb (a b : ByteArray) : Op.bytesLess a.toList b.toList = decide (Sg.cb a b < 0) := by
  rw [less_cb, Lx.toList_data, Lx.toList_data]; rfl
def Sg.kltB (a b : Sg.Value) : Bool := decide (Sg.klt a b)
set_option maxRecDepth 100000 in
set_option maxHeartbeats 4000000 in
theorem r1less_any (a b : Sg.Value) (w : World) : Calls Tryz.prog 151 #[.agg #[.int .i64 a.kind, .string a.text, .int .i64 a.lo, .int .i64 a.hi], .agg #[.int .i64 b.kind, .string b.text, .int .i64 b.lo, .int .i64 b.hi]] w (RetBB (Sg.kltB a b) w) := by
  obtain ⟨ka, ta, la, ha⟩ := a
  obtain ⟨kb, tb, lb, hb⟩ := b
  obtain ⟨W1, hW1⟩ : ∃ W1, W1 = (w.alloc (.cells #[.int .i64 ka, .string ta, .int .i64 la, .int .i64 ha] 60)).alloc (.cells #[.int .i64 kb, .string tb, .int .i64 lb, .int .i64 hb] 60) := ⟨_, rfl⟩
  have hb1 : Below w.heap.size w W1 := by rw [hW1]; exact ((Below.refl _ _).alloc (Nat.le_refl _) _).alloc (by simp) _
  have hX : W1.heap[w.heap.size]? = some (.cells #[.int .i64 ka, .string ta, .int .i64 la, .int .i64 ha] 60 (0, 0)) := by rw [hW1]; exact start_fst w _ _
  have hY : W1.heap[w.heap.size + 1]? = some (.cells #[.int .i64 kb, .string tb, .int .i64 lb, .int .i64 hb] 60 (0, 0)) := by rw [hW1]; exact start_res' w _ _
  have m0 : W1.cell? ⟨w.heap.size, 0, none⟩ = some (.int .i64 ka) := by simp [World.cell?, hX]
  have m1 : W1.cell? ⟨w.heap.size, 1, none⟩ = some (.string ta) := by simp [World.cell?, hX]
  have m2 : W1.cell? ⟨w.heap.size, 2, none⟩ = some (.int .i64 la) := by simp [World.cell?, hX]
  have n0 : W1.cell? ⟨w.heap.size + 1, 0, none⟩ = some (.int .i64 kb) := by simp [World.cell?, hY]
  have n1 : W1.cell? ⟨w.heap.size + 1, 1, none⟩ = some (.string tb) := by simp [World.cell?, hY]
  have n2 : W1.cell? ⟨w.heap.size + 1, 2, none⟩ = some (.int .i64 lb) := by simp [World.cell?, hY]
  have HB1 := Lib.hid hb1
  have HW1 := Lib.hid hW1
  have hlt := bytesLess_cb ta tb
  have hcb := @Sg.cb_eq ta tb
  have HK : Hid (Sg.kltB ⟨ka, ta, la, ha⟩ ⟨kb, tb, lb, hb⟩ = decide (ka < kb ∨ (ka = kb ∧ Sg.cb ta tb < 0) ∨ ((ka = kb ∧ ta = tb) ∧ la < lb))) := Lib.hid (by
    unfold Sg.kltB Sg.klt Sg.nlt Sg.neq
    simp only [or_assoc])
  generalize Sg.kltB ⟨ka, ta, la, ha⟩ ⟨kb, tb, lb, hb⟩ = res at HK ⊢
  clear hW1 hb1 hX hY
  by_cases h1 : ka = kb
  case neg =>
    have i1 : (ka == kb) = false := by rw [beq_eq_false_iff_ne]; exact h1
    have HV : Hid (res = decide (ka < kb)) := Lib.hid (by rw [HK.out]; congr 1; simp [h1])
    clear h1 hlt hcb
    go_enter Tryz.func151, Tryz.ntmps151
    go_upto_region 1 with fail
    rw [← HW1.out]
    go_wp2_with fail
    go_ret
    exact ⟨ret_bool HV.out.symm, HB1.out⟩
  subst h1
  by_cases h2 : ta = tb
  case neg =>
    have i2 : (ta.toList == tb.toList) = false := Lx.toList_ne h2
    have HV : Hid (res = decide (Sg.cb ta tb < 0)) := Lib.hid (by rw [HK.out]; congr 1; simp [h2])
    clear h2 hcb
    obtain ⟨bl, hbl⟩ : ∃ bl, bl = decide (Sg.cb ta tb < 0) := ⟨_, rfl⟩
    rw [← hbl] at HV hlt
    clear hbl
    go_enter Tryz.func151, Tryz.ntmps151
    go_upto_region 1 with fail
    rw [← HW1.out]
    go_wp2_with fail
    go_ret
    exact ⟨ret_bool HV.out.symm, HB1.out⟩
  subst h2
  have HV : Hid (res = decide (la < lb)) := Lib.hid (by rw [HK.out]; congr 1; simp [Sg.cb_self])
  clear hlt hcb
  go_enter Tryz.func151, Tryz.ntmps151
  go_upto_region 1 with fail
  rw [← HW1.out]
  go_wp2_with fail
  go_ret
  exact ⟨ret_bool HV.out.symm, HB1.out⟩
theorem Sg.put_split {x : Sg.Value} : ∀ {l : List Sg.Value} (k : Nat), (∀ (j : Nat) (a : Sg.Value), j < k → l[j]? = some a → Sg.klt a x) → Sg.putV x l = l.take k ++ Sg.putV x (l.drop k)
  | l, 0, _ => by simp
  | [], k + 1, _ => by simp
  | a :: l, k + 1, h => by
    have h0 := h 0 a (by omega) rfl
    rw [Sg.putV, if_pos h0, List.take_succ_cons, List.drop_succ_cons, List.cons_append]
    rw [Sg.put_split (l := l) k fun j b hj hb => h (j + 1) b (by omega) (by simpa using hb)]
theorem rds_drop {α : Type} {w : World} {B size b off n c k : Nat} {enc : α → List Value} {xs : List α} (h : RdS w B size enc (.slice (some ⟨b, off, none⟩) n c) xs) (hk : k ≤ n) : RdS w B size enc (.slice (some ⟨b, off + k * size, none⟩) (n - k) (c - k)) (xs.drop k) := by
  obtain ⟨A, c', e, hl, hc, hh⟩ := h
  injection e with e1 e2 e3
  subst e1
  subst e3
  refine ⟨_, c - k, by rw [List.length_drop, e2], by rw [List.length_drop]; omega, by omega, fun h0 => ?_⟩
  rw [List.length_drop] at h0
  obtain ⟨b', off', e', hb, hcell⟩ := hh (by omega)
  injection e' with e'
  injection e' with e4 e5
  subst e4
  subst e5
  refine ⟨b, off + k * size, rfl, hb, fun i x hx j u hj => ?_⟩
  rw [List.getElem?_drop] at hx
  have := hcell (k + i) x hx j u hj
  rw [Nat.add_mul, ← Nat.add_assoc] at this
  exact this
structure PuaR (T0 : Array Value) (W0 : World) (vv : Value) (n vb : Nat) (d : Array Bool) (t : Array Value) (wc : World) : Prop where
  bel : Below W0.heap.size W0 wc
  siz : t.size = 49
  kp : ∀ i, i ∉ ([7, 8, 9, 10, 11, 12, 13, 14, 15, 16, 17, 18] : List Nat) → t[i]? = T0[i]?
  k0 : t[0]? = some (vv)
  k3 : t[3]? = some (.pointer (some ⟨vb, 0, none⟩))
  k6 : t[6]? = some (.int .i64 (n : Nat))
  p0 : dn d 0 → t[7]? = some (.int .i64 (n : Nat))
  p1 : dn d 1 → t[8]? = some (vv)
  p2 : dn d 2 → t[9]? = some (.int .i64 (n : Nat))
  p3 : dn d 3 → t[10]? = some (.bool false)
  p4 : dn d 4 → t[11]? = some (.bool false)
  p5 : dn d 5 → t[12]? = some (undef)
  p6 : dn d 6 → t[13]? = some (undef)
  p7 : dn d 7 → t[14]? = some (undef)
  p8 : dn d 8 → t[15]? = some (undef)
  p9 : dn d 9 → t[16]? = some (undef)
  p10 : dn d 10 → t[17]? = some (undef)
  p11 : dn d 11 → t[18]? = some (.bool false)
def PuaI (T0 : Array Value) (W0 : World) (vv : Value) (n vb : Nat) (d : Array Bool) (a : Act) (wc : World) : Prop := ∃ t : Array Value, a = ⟨t, []⟩ ∧ PuaR T0 W0 vv n vb d t wc
structure PubR (T0 : Array Value) (W0 : World) (b off n c k vb : Nat) (ka : Int) (sa : ByteArray) (la ha : Int) (kv : Int) (sv : ByteArray) (lv hv : Int) (q : Bool) (d : Array Bool) (t : Array Value) (wc : World) : Prop where
  bel : Below W0.heap.size W0 wc
  siz : t.size = 49
  kp : ∀ i, i ∉ ([7, 8, 9, 10, 11, 12, 13, 14, 15, 16, 17, 18] : List Nat) → t[i]? = T0[i]?
  k0 : t[0]? = some (.slice (some ⟨b, off, none⟩) n c)
  k3 : t[3]? = some (.pointer (some ⟨vb, 0, none⟩))
  k6 : t[6]? = some (.int .i64 (k : Nat))
  p0 : dn d 0 → t[7]? = some (.int .i64 (k : Nat))
  p1 : dn d 1 → t[8]? = some (.slice (some ⟨b, off, none⟩) n c)
  p2 : dn d 2 → t[9]? = some (.int .i64 (n : Nat))
  p3 : dn d 3 → t[10]? = some (.bool true)
  p4 : dn d 4 → t[11]? = some (.bool true)
  p5 : dn d 5 → t[12]? = some (.slice (some ⟨b, off, none⟩) n c)
  p6 : dn d 6 → t[13]? = some (.int .i64 (k : Nat))
  p7 : dn d 7 → t[14]? = some (.pointer (some ⟨b, off + k * 4, none⟩))
  p8 : dn d 8 → t[15]? = some (.agg #[.int .i64 ka, .string sa, .int .i64 la, .int .i64 ha])
  p9 : dn d 9 → t[16]? = some (.agg #[.int .i64 kv, .string sv, .int .i64 lv, .int .i64 hv])
  p10 : dn d 10 → t[17]? = some (.bool q)
  p11 : dn d 11 → t[18]? = some (.bool q)
def PubI (T0 : Array Value) (W0 : World) (b off n c k vb : Nat) (ka : Int) (sa : ByteArray) (la ha : Int) (kv : Int) (sv : ByteArray) (lv hv : Int) (q : Bool) (d : Array Bool) (a : Act) (wc : World) : Prop := ∃ t : Array Value, a = ⟨t, []⟩ ∧ PubR T0 W0 b off n c k vb ka sa la ha kv sv lv hv q d t wc
theorem own_appQ {w : World} {base n m : Nat} {v : Value} {xs ys : List Value} (h : w.ownsRow base 60 4 v n xs) (hn : n = m) (hx : xs = ys) : w.ownsRow base 60 4 v m ys := by subst hn; subst hx; exact h
theorem rds_void {w : World} {B c : Nat} {A : Option Addr} (h : c ≤ 9223372036854775807) : RdS w B 4 encValue (.slice A 0 c) ([] : List Sg.Value) := ⟨A, c, rfl, Nat.zero_le _, h, fun h => absurd h (by simp)⟩
theorem own_appV {w : World} {base n : Nat} {v : Value} {p q : List Sg.Value} (h : w.ownsRow base 60 4 v n (p.flatMap encValue ++ q.flatMap encValue)) (hn : n = p.length + q.length) : w.ownsRow base 60 4 v (p ++ q).length ((p ++ q).flatMap encValue) := by
  rw [List.flatMap_append, List.length_append, ← hn]
  exact h
theorem own_formN {w : World} {base n : Nat} {e : TypeId} {size : Nat} {v : Value} {xs : List Value} (h : w.ownsRow base e size v n xs) : ∃ A c, v = .slice A n c := own_form h
set_option maxRecDepth 100000 in
set_option maxHeartbeats 8000000 in
theorem r1put_any (vl : Value) (l : List Sg.Value) (x : Sg.Value) (w : World) (hr : RdS w w.heap.size 4 encValue vl l) (hn : l ≠ []) (hlen : l.length ≤ 100000) :
    Calls Tryz.prog 123 #[vl, .agg #[.int .i64 x.kind, .string x.text, .int .i64 x.lo, .int .i64 x.hi]] w (RetVals (Sg.putV x l) w) := by
  obtain ⟨kv, sv, lv, hv⟩ := x
  have hl0 : 0 < l.length := List.length_pos_iff.2 hn
  obtain ⟨A, c, rfl, hlc, hc63⟩ := rds_form hr
  obtain ⟨b, off, rfl, hb, hcv⟩ := RdX.four hr hl0
  have HR := Lib.hid hr
  have HCV := Lib.hid hcv
  obtain ⟨i1, hi1, hz1, hs1', hb1'⟩ := info_parts info_Value
  obtain ⟨W1, hW1⟩ : ∃ W1, W1 = w.alloc (.cells #[.int .i64 kv, .string sv, .int .i64 lv, .int .i64 hv] 60) := ⟨_, rfl⟩
  have hb1 : Below w.heap.size w W1 := by rw [hW1]; exact (Below.refl _ _).alloc (Nat.le_refl _) _
  have hX : W1.heap[w.heap.size]? = some (.cells #[.int .i64 kv, .string sv, .int .i64 lv, .int .i64 hv] 60 (0, 0)) := by rw [hW1]; exact heap_alloc_new _ _
  have hs1 : w.heap.size < W1.heap.size := (Array.getElem?_eq_some_iff.1 hX).1
  have CX : Hid (∀ W, Below W1.heap.size W1 W → W.cell? ⟨w.heap.size, 0, none⟩ = some (.int .i64 kv) ∧ W.cell? ⟨w.heap.size, 1, none⟩ = some (.string sv) ∧ W.cell? ⟨w.heap.size, 2, none⟩ = some (.int .i64 lv) ∧ W.cell? ⟨w.heap.size, 3, none⟩ = some (.int .i64 hv)) := Lib.hid fun W hW => by
    have p := (hW.block _ hs1).trans hX
    exact ⟨by simp [World.cell?, p], by simp [World.cell?, p], by simp [World.cell?, p], by simp [World.cell?, p]⟩
  have HB1 := Lib.hid hb1
  have HW1 := Lib.hid hW1
  clear hr hcv hW1 hb1 hX hn
  go_enter Tryz.func123, Tryz.ntmps123
  go_upto_region 1 with fail
  rw [← HW1.out]
  go_wp2_with fail
  go_loopg [5, 6] l.length (fun g vv i wr => ∃ k : Nat, k ≤ l.length ∧ g = l.length - k ∧ i = .int .i64 (k : Nat) ∧ Below W1.heap.size W1 wr ∧ wr.ownsRow W1.heap.size 60 4 vv k ((l.take k).flatMap encValue) ∧ ∀ (j : Nat) (a : Sg.Value), j < k → l[j]? = some a → Sg.klt a ⟨kv, sv, lv, hv⟩)
  case atStart => exact ⟨0, Nat.zero_le _, rfl, rfl, Below.refl _ _, World.ownsRow_nil _ _ _ _, fun j a hj => absurd hj (Nat.not_lt_zero j)⟩
  case round =>
    obtain ⟨k, hk, rfl, rfl, hbel, hown, hkl⟩ := hrel
    obtain ⟨Av, cv, rfl⟩ := own_form hown
    have HBR := Lib.hid hbel
    have HOK := Lib.hid hown
    have HKL := Lib.hid hkl
    have HBW := Lib.hid (HB1.out.trans (hbel.mono (by omega)))
    clear hown hkl
    by_cases hlt : k < l.length
    · obtain ⟨⟨ka, sa, la, ha⟩, hy⟩ : ∃ y, l[k]? = some y := ⟨_, List.getElem?_eq_getElem hlt⟩
      have HY := Lib.hid hy
      obtain ⟨g0, g1, g2, g3⟩ := HCV.out k _ hy
      have CQ : Hid (∀ W, Below wr.heap.size wr W → W.cell? ⟨b, off + k * 4, none⟩ = some (.int .i64 ka) ∧ W.cell? ⟨b, off + k * 4 + 1, none⟩ = some (.string sa) ∧ W.cell? ⟨b, off + k * 4 + 2, none⟩ = some (.int .i64 la) ∧ W.cell? ⟨b, off + k * 4 + 3, none⟩ = some (.int .i64 ha) ∧ W.cell? ⟨w.heap.size, 0, none⟩ = some (.int .i64 kv) ∧ W.cell? ⟨w.heap.size, 1, none⟩ = some (.string sv) ∧ W.cell? ⟨w.heap.size, 2, none⟩ = some (.int .i64 lv) ∧ W.cell? ⟨w.heap.size, 3, none⟩ = some (.int .i64 hv)) := Lib.hid fun W hW => by
        have hw := HBW.out.trans (hW.mono HBW.out.size)
        have c := CX.out W (hbel.trans (hW.mono hbel.size))
        exact ⟨(hw.cell (p := ⟨b, off + k * 4, none⟩) hb).trans g0, (hw.cell (p := ⟨b, off + k * 4 + 1, none⟩) hb).trans g1, (hw.cell (p := ⟨b, off + k * 4 + 2, none⟩) hb).trans g2, (hw.cell (p := ⟨b, off + k * 4 + 3, none⟩) hb).trans g3, c.1, c.2.1, c.2.2.1, c.2.2.2⟩
      have HLS := Lib.hid fun W => r1less_any ⟨ka, sa, la, ha⟩ ⟨kv, sv, lv, hv⟩ W
      have hkI : (0 : Int) ≤ (k : Int) := by omega
      have hkJ : (k : Int) < (l.length : Int) := by omega
      have hsp := Sg.put_split k HKL.out
      clear hy g0 g1 g2 g3 hbel
      cases hq : Sg.kltB ⟨ka, sa, la, ha⟩ ⟨kv, sv, lv, hv⟩
      case' true =>
        rw [hq] at HLS
        have HNX : Hid (∀ (j : Nat) (a : Sg.Value), j < k + 1 → l[j]? = some a → Sg.klt a ⟨kv, sv, lv, hv⟩) := Lib.hid fun j a hj ha => by
          by_cases e : j = k
          · subst e
            rw [HY.out] at ha
            cases ha
            unfold Sg.kltB at hq
            simpa using hq
          · exact HKL.out j a (by omega) ha
        clear hq hsp
        go_upto_region 3 with fail
        refine wp_region_inv2T (fun T0 => PubI T0 wr b off l.length c k w.heap.size ka sa la ha kv sv lv hv true) (by kernel_rfl) (by kernel_rfl) ?g0b ?gstepb ?gendb
        case g0b =>
          have hno : ∀ j, ¬ dn (Array.replicate 12 false) j := by
            intro j; unfold dn; by_cases hj : j < 12 <;> simp [Array.getD, hj]
          have na : ∀ {j : Nat} {Z : Prop}, dn (Array.replicate 12 false) j → Z := fun hj => absurd hj (hno _)
          exact ⟨_, rfl, { bel := (Below.refl _ _).drew, siz := rfl, kp := fun _ _ => rfl, k0 := rfl, k3 := rfl, k6 := rfl, p0 := na, p1 := na, p2 := na, p3 := na, p4 := na, p5 := na, p6 := na, p7 := na, p8 := na, p9 := na, p10 := na, p11 := na }⟩
        case gstepb =>
          intro T0 d a wc i hd hI hi
          obtain ⟨hlt, hnd, hpre⟩ := mem_ready hi
          have hd' : d.size = 12 := hd
          have hin : i < 12 := hlt
          clear hi hd hlt
          obtain ⟨t, rfl, h⟩ := hI
          have hcs : i = 0 ∨ i = 1 ∨ i = 2 ∨ i = 3 ∨ i = 4 ∨ i = 5 ∨ i = 6 ∨ i = 7 ∨ i = 8 ∨ i = 9 ∨ i = 10 ∨ i = 11 := by omega
          rcases hcs with rfl | rfl | rfl | rfl | rfl | rfl | rfl | rfl | rfl | rfl | rfl | rfl
          · have hi : 0 < d.size := by omega
            have q6 := h.k6
            refine wpOp_plain rfl rfl ?_
            go_simp
            exact ⟨_, rfl, { bel := h.bel, siz := (by simpa using h.siz), kp := rk h.kp, k0 := rs h.k0, k3 := rs h.k3, k6 := rs h.k6, p0 := fun _ => set_same (by have := h.siz; omega), p1 := rp hi h.p1, p2 := rp hi h.p2, p3 := rp hi h.p3, p4 := rp hi h.p4, p5 := rp hi h.p5, p6 := rp hi h.p6, p7 := rp hi h.p7, p8 := rp hi h.p8, p9 := rp hi h.p9, p10 := rp hi h.p10, p11 := rp hi h.p11 }⟩
          · have hi : 1 < d.size := by omega
            have q0 := h.k0
            refine wpOp_plain rfl rfl ?_
            go_simp
            exact ⟨_, rfl, { bel := h.bel, siz := (by simpa using h.siz), kp := rk h.kp, k0 := rs h.k0, k3 := rs h.k3, k6 := rs h.k6, p0 := rp hi h.p0, p1 := fun _ => set_same (by have := h.siz; omega), p2 := rp hi h.p2, p3 := rp hi h.p3, p4 := rp hi h.p4, p5 := rp hi h.p5, p6 := rp hi h.p6, p7 := rp hi h.p7, p8 := rp hi h.p8, p9 := rp hi h.p9, p10 := rp hi h.p10, p11 := rp hi h.p11 }⟩
          · have hi : 2 < d.size := by omega
            have e1 := h.p1 (hpre _ rfl ⟨1, .data⟩ (by simp) rfl)
            refine wpOp_plain rfl rfl ?_
            go_simp
            exact ⟨_, rfl, { bel := h.bel, siz := (by simpa using h.siz), kp := rk h.kp, k0 := rs h.k0, k3 := rs h.k3, k6 := rs h.k6, p0 := rp hi h.p0, p1 := rp hi h.p1, p2 := fun _ => set_same (by have := h.siz; omega), p3 := rp hi h.p3, p4 := rp hi h.p4, p5 := rp hi h.p5, p6 := rp hi h.p6, p7 := rp hi h.p7, p8 := rp hi h.p8, p9 := rp hi h.p9, p10 := rp hi h.p10, p11 := rp hi h.p11 }⟩
          · have hi : 3 < d.size := by omega
            have e0 := h.p0 (hpre _ rfl ⟨0, .data⟩ (by simp) rfl)
            have e2 := h.p2 (hpre _ rfl ⟨2, .data⟩ (by simp) rfl)
            refine wpOp_plain rfl rfl ?_
            go_simp
            exact ⟨_, rfl, { bel := h.bel, siz := (by simpa using h.siz), kp := rk h.kp, k0 := rs h.k0, k3 := rs h.k3, k6 := rs h.k6, p0 := rp hi h.p0, p1 := rp hi h.p1, p2 := rp hi h.p2, p3 := fun _ => set_same (by have := h.siz; omega), p4 := rp hi h.p4, p5 := rp hi h.p5, p6 := rp hi h.p6, p7 := rp hi h.p7, p8 := rp hi h.p8, p9 := rp hi h.p9, p10 := rp hi h.p10, p11 := rp hi h.p11 }⟩
          · have hi : 4 < d.size := by omega
            have e3 := h.p3 (hpre _ rfl ⟨3, .data⟩ (by simp) rfl)
            refine wpOp_plain rfl rfl ?_
            go_simp
            exact ⟨_, rfl, { bel := h.bel, siz := (by simpa using h.siz), kp := rk h.kp, k0 := rs h.k0, k3 := rs h.k3, k6 := rs h.k6, p0 := rp hi h.p0, p1 := rp hi h.p1, p2 := rp hi h.p2, p3 := rp hi h.p3, p4 := fun _ => set_same (by have := h.siz; omega), p5 := rp hi h.p5, p6 := rp hi h.p6, p7 := rp hi h.p7, p8 := rp hi h.p8, p9 := rp hi h.p9, p10 := rp hi h.p10, p11 := rp hi h.p11 }⟩
          · have hi : 5 < d.size := by omega
            have q0 := h.k0
            refine wpOp_guard rfl (wanted_of (d := 11) rfl rfl (h.p4 (hpre _ rfl ⟨4, .guard⟩ (by simp) rfl))) ?_
            go_simp
            exact ⟨_, rfl, { bel := h.bel, siz := (by simpa using h.siz), kp := rk h.kp, k0 := rs h.k0, k3 := rs h.k3, k6 := rs h.k6, p0 := rp hi h.p0, p1 := rp hi h.p1, p2 := rp hi h.p2, p3 := rp hi h.p3, p4 := rp hi h.p4, p5 := fun _ => set_same (by have := h.siz; omega), p6 := rp hi h.p6, p7 := rp hi h.p7, p8 := rp hi h.p8, p9 := rp hi h.p9, p10 := rp hi h.p10, p11 := rp hi h.p11 }⟩
          · have hi : 6 < d.size := by omega
            have q6 := h.k6
            refine wpOp_guard rfl (wanted_of (d := 11) rfl rfl (h.p4 (hpre _ rfl ⟨4, .guard⟩ (by simp) rfl))) ?_
            go_simp
            exact ⟨_, rfl, { bel := h.bel, siz := (by simpa using h.siz), kp := rk h.kp, k0 := rs h.k0, k3 := rs h.k3, k6 := rs h.k6, p0 := rp hi h.p0, p1 := rp hi h.p1, p2 := rp hi h.p2, p3 := rp hi h.p3, p4 := rp hi h.p4, p5 := rp hi h.p5, p6 := fun _ => set_same (by have := h.siz; omega), p7 := rp hi h.p7, p8 := rp hi h.p8, p9 := rp hi h.p9, p10 := rp hi h.p10, p11 := rp hi h.p11 }⟩
          · have hi : 7 < d.size := by omega
            have e5 := h.p5 (hpre _ rfl ⟨5, .data⟩ (by simp) rfl)
            have e6 := h.p6 (hpre _ rfl ⟨6, .data⟩ (by simp) rfl)
            refine wpOp_guard rfl (wanted_of (d := 11) rfl rfl (h.p4 (hpre _ rfl ⟨4, .guard⟩ (by simp) rfl))) ?_
            go_simp
            exact ⟨_, rfl, { bel := h.bel, siz := (by simpa using h.siz), kp := rk h.kp, k0 := rs h.k0, k3 := rs h.k3, k6 := rs h.k6, p0 := rp hi h.p0, p1 := rp hi h.p1, p2 := rp hi h.p2, p3 := rp hi h.p3, p4 := rp hi h.p4, p5 := rp hi h.p5, p6 := rp hi h.p6, p7 := fun _ => set_same (by have := h.siz; omega), p8 := rp hi h.p8, p9 := rp hi h.p9, p10 := rp hi h.p10, p11 := rp hi h.p11 }⟩
          · have hi : 8 < d.size := by omega
            have e7 := h.p7 (hpre _ rfl ⟨7, .data⟩ (by simp) rfl)
            obtain ⟨m0, m1, m2, m3, n0, n1, n2, n3⟩ := CQ.out wc h.bel
            refine wpOp_guard rfl (wanted_of (d := 11) rfl rfl (h.p4 (hpre _ rfl ⟨4, .guard⟩ (by simp) rfl))) ?_
            go_simp
            exact ⟨_, rfl, { bel := h.bel, siz := (by simpa using h.siz), kp := rk h.kp, k0 := rs h.k0, k3 := rs h.k3, k6 := rs h.k6, p0 := rp hi h.p0, p1 := rp hi h.p1, p2 := rp hi h.p2, p3 := rp hi h.p3, p4 := rp hi h.p4, p5 := rp hi h.p5, p6 := rp hi h.p6, p7 := rp hi h.p7, p8 := fun _ => set_same (by have := h.siz; omega), p9 := rp hi h.p9, p10 := rp hi h.p10, p11 := rp hi h.p11 }⟩
          · have hi : 9 < d.size := by omega
            have q3 := h.k3
            obtain ⟨m0, m1, m2, m3, n0, n1, n2, n3⟩ := CQ.out wc h.bel
            refine wpOp_guard rfl (wanted_of (d := 11) rfl rfl (h.p4 (hpre _ rfl ⟨4, .guard⟩ (by simp) rfl))) ?_
            go_simp
            exact ⟨_, rfl, { bel := h.bel, siz := (by simpa using h.siz), kp := rk h.kp, k0 := rs h.k0, k3 := rs h.k3, k6 := rs h.k6, p0 := rp hi h.p0, p1 := rp hi h.p1, p2 := rp hi h.p2, p3 := rp hi h.p3, p4 := rp hi h.p4, p5 := rp hi h.p5, p6 := rp hi h.p6, p7 := rp hi h.p7, p8 := rp hi h.p8, p9 := fun _ => set_same (by have := h.siz; omega), p10 := rp hi h.p10, p11 := rp hi h.p11 }⟩
          · have hi : 10 < d.size := by omega
            have e8 := h.p8 (hpre _ rfl ⟨8, .data⟩ (by simp) rfl)
            have e9 := h.p9 (hpre _ rfl ⟨9, .data⟩ (by simp) rfl)
            refine wpOp_guard rfl (wanted_of (d := 11) rfl rfl (h.p4 (hpre _ rfl ⟨4, .guard⟩ (by simp) rfl))) ?_
            go_simp
            refine (HLS.out wc).mono ?_
            rintro e1 w1 ⟨rfl, hb⟩
            exact ⟨_, rfl, { bel := h.bel.trans (hb.mono h.bel.size), siz := (by simpa using h.siz), kp := rk h.kp, k0 := rs h.k0, k3 := rs h.k3, k6 := rs h.k6, p0 := rp hi h.p0, p1 := rp hi h.p1, p2 := rp hi h.p2, p3 := rp hi h.p3, p4 := rp hi h.p4, p5 := rp hi h.p5, p6 := rp hi h.p6, p7 := rp hi h.p7, p8 := rp hi h.p8, p9 := rp hi h.p9, p10 := fun _ => set_same (by have := h.siz; omega), p11 := rp hi h.p11 }⟩
          · have hi : 11 < d.size := by omega
            have e4 := h.p4 (hpre _ rfl ⟨4, .data⟩ (by simp) rfl)
            have e10 := h.p10 (hpre _ rfl ⟨10, .data⟩ (by simp) rfl)
            refine wpOp_plain rfl rfl ?_
            go_simp
            exact ⟨_, rfl, { bel := h.bel, siz := (by simpa using h.siz), kp := rk h.kp, k0 := rs h.k0, k3 := rs h.k3, k6 := rs h.k6, p0 := rp hi h.p0, p1 := rp hi h.p1, p2 := rp hi h.p2, p3 := rp hi h.p3, p4 := rp hi h.p4, p5 := rp hi h.p5, p6 := rp hi h.p6, p7 := rp hi h.p7, p8 := rp hi h.p8, p9 := rp hi h.p9, p10 := rp hi h.p10, p11 := fun _ => set_same (by have := h.siz; omega) }⟩
        case gendb =>
          intro d a wc hd hI hall
          obtain ⟨t, rfl, h⟩ := hI
          have hdn : ∀ j, j < 12 → dn d j := fun j hj => dn_all hd hall hj
          have hd : ∀ j, (_ : j < 12 := by decide) → dn d j := fun j hj => hdn j hj
          have hfe := frame_eq [(7, _), (8, _), (9, _), (10, _), (11, _), (12, _), (13, _), (14, _), (15, _), (16, _), (17, _), (18, _)] (h.siz.trans rfl) h.kp rfl ⟨h.p0 (hd 0), h.p1 (hd 1), h.p2 (hd 2), h.p3 (hd 3), h.p4 (hd 4), h.p5 (hd 5), h.p6 (hd 6), h.p7 (hd 7), h.p8 (hd 8), h.p9 (hd 9), h.p10 (hd 10), h.p11 (hd 11), trivial⟩
          simp only [List.foldl_cons, List.foldl_nil, List.setIfInBounds_toArray, List.set_cons_succ, List.set_cons_zero] at hfe
          have hbc := h.bel
          subst hfe
          clear h hdn hd hall
          have HBX := Lib.hid (HBR.out.trans (hbc.mono HBR.out.size))
          have HOX := Lib.hid (keep_own HOK.out hbc)
          obtain ⟨m0, m1, m2, m3, n0, n1, n2, n3⟩ := CQ.out wc hbc
          clear hbc
          have HOS : Hid ((wc.alloc (.cells #[.int .i64 ka, .string sa, .int .i64 la, .int .i64 ha] 60)).ownsRow W1.heap.size 60 4 (.slice Av k cv) k ((l.take k).flatMap encValue)) := Lib.hid (keep_own HOX.out ((Below.refl _ _).alloc (Nat.le_refl _) _))
          have HRD := Lib.hid (rd_one_value wc (⟨ka, sa, la, ha⟩ : Sg.Value))
          have hk1 : k + 1 ≤ maxLen := by simp only [maxLen]; omega
          have hk2 : (k + 1) * 40 ≤ 140737488355328 := by omega
          have hbase : W1.heap.size ≤ (wc.alloc (.cells #[.int .i64 ka, .string sa, .int .i64 la, .int .i64 ha] 60)).heap.size := by have := HBX.out.size; simp; omega
          go_wp2_with (at_builtin; go_must (refine wpList_append_rd (enc := encValue) rfl (.tmp 19) (.tmp 24) _ rfl W1.heap.size 60 i1 _ 4 40 len_value one_value Tryz.underlying47 hi1 hz1 hs1' hb1' rfl (by decide) (.slice Av k cv) k ((l.take k).flatMap encValue) rfl HOS.out _ (.slice (some ⟨wc.heap.size, 0, none⟩) 1 1) [(⟨ka, sa, la, ha⟩ : Sg.Value)] rfl HRD.out hk1 hk2 hbase ?_))
          intro v8 w8 hown8 hg8 hat8
          have HB8 : Hid (Below W1.heap.size W1 w8) := Lib.hid ((HBX.out.alloc HBX.out.size _).grown hg8 hbase (fun q hq => (HOS.out.lt q hq).1))
          have HO8 : Hid (w8.ownsRow W1.heap.size 60 4 v8 (k + 1) (((l.take k) ++ [(⟨ka, sa, la, ha⟩ : Sg.Value)]).flatMap encValue)) := Lib.hid (by rw [List.flatMap_append]; simpa using hown8)
          clear hown8 hg8 hat8
          clear m0 m1 m2 m3 n0 n1 n2 n3
          have HTK : Hid (l.take (k + 1) = l.take k ++ [(⟨ka, sa, la, ha⟩ : Sg.Value)]) := Lib.hid (by rw [List.take_add_one, HY.out]; rfl)
          go_wp2_with fail
          go_roundg (l.length - (k + 1))
          case measure => omega
          case rel => exact ⟨k + 1, by omega, rfl, by go_num, HB8.out, by rw [HTK.out]; exact HO8.out, HNX.out⟩
      have hnk : ¬ Sg.klt ⟨ka, sa, la, ha⟩ ⟨kv, sv, lv, hv⟩ := by unfold Sg.kltB at hq; simpa using hq
      rw [hq] at HLS
      have hdr : l.drop k = ⟨ka, sa, la, ha⟩ :: l.drop (k + 1) := by
        rw [List.drop_eq_getElem_cons hlt]
        congr 1
        exact (List.getElem?_eq_some_iff.1 HY.out).2
      have hkE : ((k : Int) == (l.length : Int)) = false := by rw [beq_eq_false_iff_ne]; omega
      rw [hdr, Sg.putV, if_neg hnk, ← hdr] at hsp
      clear hq hdr hnk
      by_cases heq : (⟨ka, sa, la, ha⟩ : Sg.Value) = ⟨kv, sv, lv, hv⟩
      · rw [if_pos heq] at hsp
        have HSP := Lib.hid hsp
        have he : ka = kv ∧ sa = sv ∧ la = lv ∧ ha = hv := by simpa using heq
        obtain ⟨rfl, rfl, rfl, rfl⟩ := he
        clear hsp heq
        go_upto_region 3 with fail
        refine wp_region_inv2T (fun T0 => PubI T0 wr b off l.length c k w.heap.size ka sa la ha ka sa la ha false) (by kernel_rfl) (by kernel_rfl) ?g0b ?gstepb ?gendb
        case g0b =>
          have hno : ∀ j, ¬ dn (Array.replicate 12 false) j := by
            intro j; unfold dn; by_cases hj : j < 12 <;> simp [Array.getD, hj]
          have na : ∀ {j : Nat} {Z : Prop}, dn (Array.replicate 12 false) j → Z := fun hj => absurd hj (hno _)
          exact ⟨_, rfl, { bel := (Below.refl _ _).drew, siz := rfl, kp := fun _ _ => rfl, k0 := rfl, k3 := rfl, k6 := rfl, p0 := na, p1 := na, p2 := na, p3 := na, p4 := na, p5 := na, p6 := na, p7 := na, p8 := na, p9 := na, p10 := na, p11 := na }⟩
        case gstepb =>
          intro T0 d a wc i hd hI hi
          obtain ⟨hlt, hnd, hpre⟩ := mem_ready hi
          have hd' : d.size = 12 := hd
          have hin : i < 12 := hlt
          clear hi hd hlt
          obtain ⟨t, rfl, h⟩ := hI
          have hcs : i = 0 ∨ i = 1 ∨ i = 2 ∨ i = 3 ∨ i = 4 ∨ i = 5 ∨ i = 6 ∨ i = 7 ∨ i = 8 ∨ i = 9 ∨ i = 10 ∨ i = 11 := by omega
          rcases hcs with rfl | rfl | rfl | rfl | rfl | rfl | rfl | rfl | rfl | rfl | rfl | rfl
          · have hi : 0 < d.size := by omega
            have q6 := h.k6
            refine wpOp_plain rfl rfl ?_
            go_simp
            exact ⟨_, rfl, { bel := h.bel, siz := (by simpa using h.siz), kp := rk h.kp, k0 := rs h.k0, k3 := rs h.k3, k6 := rs h.k6, p0 := fun _ => set_same (by have := h.siz; omega), p1 := rp hi h.p1, p2 := rp hi h.p2, p3 := rp hi h.p3, p4 := rp hi h.p4, p5 := rp hi h.p5, p6 := rp hi h.p6, p7 := rp hi h.p7, p8 := rp hi h.p8, p9 := rp hi h.p9, p10 := rp hi h.p10, p11 := rp hi h.p11 }⟩
          · have hi : 1 < d.size := by omega
            have q0 := h.k0
            refine wpOp_plain rfl rfl ?_
            go_simp
            exact ⟨_, rfl, { bel := h.bel, siz := (by simpa using h.siz), kp := rk h.kp, k0 := rs h.k0, k3 := rs h.k3, k6 := rs h.k6, p0 := rp hi h.p0, p1 := fun _ => set_same (by have := h.siz; omega), p2 := rp hi h.p2, p3 := rp hi h.p3, p4 := rp hi h.p4, p5 := rp hi h.p5, p6 := rp hi h.p6, p7 := rp hi h.p7, p8 := rp hi h.p8, p9 := rp hi h.p9, p10 := rp hi h.p10, p11 := rp hi h.p11 }⟩
          · have hi : 2 < d.size := by omega
            have e1 := h.p1 (hpre _ rfl ⟨1, .data⟩ (by simp) rfl)
            refine wpOp_plain rfl rfl ?_
            go_simp
            exact ⟨_, rfl, { bel := h.bel, siz := (by simpa using h.siz), kp := rk h.kp, k0 := rs h.k0, k3 := rs h.k3, k6 := rs h.k6, p0 := rp hi h.p0, p1 := rp hi h.p1, p2 := fun _ => set_same (by have := h.siz; omega), p3 := rp hi h.p3, p4 := rp hi h.p4, p5 := rp hi h.p5, p6 := rp hi h.p6, p7 := rp hi h.p7, p8 := rp hi h.p8, p9 := rp hi h.p9, p10 := rp hi h.p10, p11 := rp hi h.p11 }⟩
          · have hi : 3 < d.size := by omega
            have e0 := h.p0 (hpre _ rfl ⟨0, .data⟩ (by simp) rfl)
            have e2 := h.p2 (hpre _ rfl ⟨2, .data⟩ (by simp) rfl)
            refine wpOp_plain rfl rfl ?_
            go_simp
            exact ⟨_, rfl, { bel := h.bel, siz := (by simpa using h.siz), kp := rk h.kp, k0 := rs h.k0, k3 := rs h.k3, k6 := rs h.k6, p0 := rp hi h.p0, p1 := rp hi h.p1, p2 := rp hi h.p2, p3 := fun _ => set_same (by have := h.siz; omega), p4 := rp hi h.p4, p5 := rp hi h.p5, p6 := rp hi h.p6, p7 := rp hi h.p7, p8 := rp hi h.p8, p9 := rp hi h.p9, p10 := rp hi h.p10, p11 := rp hi h.p11 }⟩
          · have hi : 4 < d.size := by omega
            have e3 := h.p3 (hpre _ rfl ⟨3, .data⟩ (by simp) rfl)
            refine wpOp_plain rfl rfl ?_
            go_simp
            exact ⟨_, rfl, { bel := h.bel, siz := (by simpa using h.siz), kp := rk h.kp, k0 := rs h.k0, k3 := rs h.k3, k6 := rs h.k6, p0 := rp hi h.p0, p1 := rp hi h.p1, p2 := rp hi h.p2, p3 := rp hi h.p3, p4 := fun _ => set_same (by have := h.siz; omega), p5 := rp hi h.p5, p6 := rp hi h.p6, p7 := rp hi h.p7, p8 := rp hi h.p8, p9 := rp hi h.p9, p10 := rp hi h.p10, p11 := rp hi h.p11 }⟩
          · have hi : 5 < d.size := by omega
            have q0 := h.k0
            refine wpOp_guard rfl (wanted_of (d := 11) rfl rfl (h.p4 (hpre _ rfl ⟨4, .guard⟩ (by simp) rfl))) ?_
            go_simp
            exact ⟨_, rfl, { bel := h.bel, siz := (by simpa using h.siz), kp := rk h.kp, k0 := rs h.k0, k3 := rs h.k3, k6 := rs h.k6, p0 := rp hi h.p0, p1 := rp hi h.p1, p2 := rp hi h.p2, p3 := rp hi h.p3, p4 := rp hi h.p4, p5 := fun _ => set_same (by have := h.siz; omega), p6 := rp hi h.p6, p7 := rp hi h.p7, p8 := rp hi h.p8, p9 := rp hi h.p9, p10 := rp hi h.p10, p11 := rp hi h.p11 }⟩
          · have hi : 6 < d.size := by omega
            have q6 := h.k6
            refine wpOp_guard rfl (wanted_of (d := 11) rfl rfl (h.p4 (hpre _ rfl ⟨4, .guard⟩ (by simp) rfl))) ?_
            go_simp
            exact ⟨_, rfl, { bel := h.bel, siz := (by simpa using h.siz), kp := rk h.kp, k0 := rs h.k0, k3 := rs h.k3, k6 := rs h.k6, p0 := rp hi h.p0, p1 := rp hi h.p1, p2 := rp hi h.p2, p3 := rp hi h.p3, p4 := rp hi h.p4, p5 := rp hi h.p5, p6 := fun _ => set_same (by have := h.siz; omega), p7 := rp hi h.p7, p8 := rp hi h.p8, p9 := rp hi h.p9, p10 := rp hi h.p10, p11 := rp hi h.p11 }⟩
          · have hi : 7 < d.size := by omega
            have e5 := h.p5 (hpre _ rfl ⟨5, .data⟩ (by simp) rfl)
            have e6 := h.p6 (hpre _ rfl ⟨6, .data⟩ (by simp) rfl)
            refine wpOp_guard rfl (wanted_of (d := 11) rfl rfl (h.p4 (hpre _ rfl ⟨4, .guard⟩ (by simp) rfl))) ?_
            go_simp
            exact ⟨_, rfl, { bel := h.bel, siz := (by simpa using h.siz), kp := rk h.kp, k0 := rs h.k0, k3 := rs h.k3, k6 := rs h.k6, p0 := rp hi h.p0, p1 := rp hi h.p1, p2 := rp hi h.p2, p3 := rp hi h.p3, p4 := rp hi h.p4, p5 := rp hi h.p5, p6 := rp hi h.p6, p7 := fun _ => set_same (by have := h.siz; omega), p8 := rp hi h.p8, p9 := rp hi h.p9, p10 := rp hi h.p10, p11 := rp hi h.p11 }⟩
          · have hi : 8 < d.size := by omega
            have e7 := h.p7 (hpre _ rfl ⟨7, .data⟩ (by simp) rfl)
            obtain ⟨m0, m1, m2, m3, n0, n1, n2, n3⟩ := CQ.out wc h.bel
            refine wpOp_guard rfl (wanted_of (d := 11) rfl rfl (h.p4 (hpre _ rfl ⟨4, .guard⟩ (by simp) rfl))) ?_
            go_simp
            exact ⟨_, rfl, { bel := h.bel, siz := (by simpa using h.siz), kp := rk h.kp, k0 := rs h.k0, k3 := rs h.k3, k6 := rs h.k6, p0 := rp hi h.p0, p1 := rp hi h.p1, p2 := rp hi h.p2, p3 := rp hi h.p3, p4 := rp hi h.p4, p5 := rp hi h.p5, p6 := rp hi h.p6, p7 := rp hi h.p7, p8 := fun _ => set_same (by have := h.siz; omega), p9 := rp hi h.p9, p10 := rp hi h.p10, p11 := rp hi h.p11 }⟩
          · have hi : 9 < d.size := by omega
            have q3 := h.k3
            obtain ⟨m0, m1, m2, m3, n0, n1, n2, n3⟩ := CQ.out wc h.bel
            refine wpOp_guard rfl (wanted_of (d := 11) rfl rfl (h.p4 (hpre _ rfl ⟨4, .guard⟩ (by simp) rfl))) ?_
            go_simp
            exact ⟨_, rfl, { bel := h.bel, siz := (by simpa using h.siz), kp := rk h.kp, k0 := rs h.k0, k3 := rs h.k3, k6 := rs h.k6, p0 := rp hi h.p0, p1 := rp hi h.p1, p2 := rp hi h.p2, p3 := rp hi h.p3, p4 := rp hi h.p4, p5 := rp hi h.p5, p6 := rp hi h.p6, p7 := rp hi h.p7, p8 := rp hi h.p8, p9 := fun _ => set_same (by have := h.siz; omega), p10 := rp hi h.p10, p11 := rp hi h.p11 }⟩
          · have hi : 10 < d.size := by omega
            have e8 := h.p8 (hpre _ rfl ⟨8, .data⟩ (by simp) rfl)
            have e9 := h.p9 (hpre _ rfl ⟨9, .data⟩ (by simp) rfl)
            refine wpOp_guard rfl (wanted_of (d := 11) rfl rfl (h.p4 (hpre _ rfl ⟨4, .guard⟩ (by simp) rfl))) ?_
            go_simp
            refine (HLS.out wc).mono ?_
            rintro e1 w1 ⟨rfl, hb⟩
            exact ⟨_, rfl, { bel := h.bel.trans (hb.mono h.bel.size), siz := (by simpa using h.siz), kp := rk h.kp, k0 := rs h.k0, k3 := rs h.k3, k6 := rs h.k6, p0 := rp hi h.p0, p1 := rp hi h.p1, p2 := rp hi h.p2, p3 := rp hi h.p3, p4 := rp hi h.p4, p5 := rp hi h.p5, p6 := rp hi h.p6, p7 := rp hi h.p7, p8 := rp hi h.p8, p9 := rp hi h.p9, p10 := fun _ => set_same (by have := h.siz; omega), p11 := rp hi h.p11 }⟩
          · have hi : 11 < d.size := by omega
            have e4 := h.p4 (hpre _ rfl ⟨4, .data⟩ (by simp) rfl)
            have e10 := h.p10 (hpre _ rfl ⟨10, .data⟩ (by simp) rfl)
            refine wpOp_plain rfl rfl ?_
            go_simp
            exact ⟨_, rfl, { bel := h.bel, siz := (by simpa using h.siz), kp := rk h.kp, k0 := rs h.k0, k3 := rs h.k3, k6 := rs h.k6, p0 := rp hi h.p0, p1 := rp hi h.p1, p2 := rp hi h.p2, p3 := rp hi h.p3, p4 := rp hi h.p4, p5 := rp hi h.p5, p6 := rp hi h.p6, p7 := rp hi h.p7, p8 := rp hi h.p8, p9 := rp hi h.p9, p10 := rp hi h.p10, p11 := fun _ => set_same (by have := h.siz; omega) }⟩
        case gendb =>
          intro d a wc hd hI hall
          obtain ⟨t, rfl, h⟩ := hI
          have hdn : ∀ j, j < 12 → dn d j := fun j hj => dn_all hd hall hj
          have hd : ∀ j, (_ : j < 12 := by decide) → dn d j := fun j hj => hdn j hj
          have hfe := frame_eq [(7, _), (8, _), (9, _), (10, _), (11, _), (12, _), (13, _), (14, _), (15, _), (16, _), (17, _), (18, _)] (h.siz.trans rfl) h.kp rfl ⟨h.p0 (hd 0), h.p1 (hd 1), h.p2 (hd 2), h.p3 (hd 3), h.p4 (hd 4), h.p5 (hd 5), h.p6 (hd 6), h.p7 (hd 7), h.p8 (hd 8), h.p9 (hd 9), h.p10 (hd 10), h.p11 (hd 11), trivial⟩
          simp only [List.foldl_cons, List.foldl_nil, List.setIfInBounds_toArray, List.set_cons_succ, List.set_cons_zero] at hfe
          have hbc := h.bel
          subst hfe
          clear h hdn hd hall
          have HBX := Lib.hid (HBR.out.trans (hbc.mono HBR.out.size))
          have HOX := Lib.hid (keep_own HOK.out hbc)
          obtain ⟨m0, m1, m2, m3, n0, n1, n2, n3⟩ := CQ.out wc hbc
          clear hbc
          go_upto_region 6 with fail
          go_quiet (fail)
          generalize hwd : World.drewN _ _ = wd
          have HBD : Hid (Below W1.heap.size W1 wd) := Lib.hid (by rw [← hwd]; exact below_drewN HBX.out _)
          have HOD : Hid (wd.ownsRow W1.heap.size 60 4 (.slice Av k cv) k ((l.take k).flatMap encValue)) := Lib.hid (by rw [← hwd]; exact keep_own HOX.out (below_drewN (Below.refl _ _) _))
          clear hwd m0 m1 m2 m3 n0 n1 n2 n3
          have HOS : Hid (wd.ownsRow W1.heap.size 60 4 (.slice Av k cv) k ((l.take k).flatMap encValue)) := Lib.hid HOD.out
          have HRD : Hid (RdS wd w.heap.size 4 encValue (.slice (some ⟨b, off + k * 4, none⟩) (l.length - k) (c - k)) (l.drop k)) := Lib.hid (rds_drop (HR.out.below (HB1.out.trans (HBD.out.mono (by omega)))) hk)
          have hdl : (l.drop k).length = l.length - k := List.length_drop
          have hk1 : k + (l.drop k).length ≤ maxLen := by simp only [maxLen]; omega
          have hk2 : (k + (l.drop k).length) * 40 ≤ 140737488355328 := by omega
          have hbase : W1.heap.size ≤ wd.heap.size := HBD.out.size
          have q1 : (k : Int) ≤ (l.length : Int) := by omega
          have q2 : (l.length : Int) ≤ (c : Int) := by omega
          have q3 : (0 : Int) ≤ (k : Int) := by omega
          go_wp2_with (at_builtin; go_must (refine wpList_append_rd (enc := encValue) rfl (.tmp 44) (.tmp 47) _ rfl W1.heap.size 60 i1 _ 4 40 len_value one_value Tryz.underlying47 hi1 hz1 hs1' hb1' rfl (by decide) (.slice Av k cv) k ((l.take k).flatMap encValue) rfl HOS.out w.heap.size (.slice (some ⟨b, off + k * 4, none⟩) (l.length - k) (c - k)) (l.drop k) rfl HRD.out hk1 hk2 hbase ?_))
          intro v8 w8 hown8 hg8 hat8
          have HB9 : Hid (Below W1.heap.size W1 w8) := Lib.hid (HBD.out.grown hg8 hbase (fun q hq => (HOS.out.lt q hq).1))
          have HO9 := Lib.hid hown8
          clear hown8 hg8 hat8
          go_wp2_with fail
          go_ret
          exact ⟨_, rfl, by rw [HSP.out]; exact (own_appV HO9.out (by rw [List.length_take, List.length_drop]; omega)).mono (Nat.le_of_lt hs1), HB1.out.trans (HB9.out.mono (by omega))⟩
      · rw [if_neg heq] at hsp
        have HSP := Lib.hid hsp
        have hne := Sg.val_ne heq
        clear hsp heq
        go_upto_region 3 with fail
        refine wp_region_inv2T (fun T0 => PubI T0 wr b off l.length c k w.heap.size ka sa la ha kv sv lv hv false) (by kernel_rfl) (by kernel_rfl) ?g0b ?gstepb ?gendb
        case g0b =>
          have hno : ∀ j, ¬ dn (Array.replicate 12 false) j := by
            intro j; unfold dn; by_cases hj : j < 12 <;> simp [Array.getD, hj]
          have na : ∀ {j : Nat} {Z : Prop}, dn (Array.replicate 12 false) j → Z := fun hj => absurd hj (hno _)
          exact ⟨_, rfl, { bel := (Below.refl _ _).drew, siz := rfl, kp := fun _ _ => rfl, k0 := rfl, k3 := rfl, k6 := rfl, p0 := na, p1 := na, p2 := na, p3 := na, p4 := na, p5 := na, p6 := na, p7 := na, p8 := na, p9 := na, p10 := na, p11 := na }⟩
        case gstepb =>
          intro T0 d a wc i hd hI hi
          obtain ⟨hlt, hnd, hpre⟩ := mem_ready hi
          have hd' : d.size = 12 := hd
          have hin : i < 12 := hlt
          clear hi hd hlt
          obtain ⟨t, rfl, h⟩ := hI
          have hcs : i = 0 ∨ i = 1 ∨ i = 2 ∨ i = 3 ∨ i = 4 ∨ i = 5 ∨ i = 6 ∨ i = 7 ∨ i = 8 ∨ i = 9 ∨ i = 10 ∨ i = 11 := by omega
          rcases hcs with rfl | rfl | rfl | rfl | rfl | rfl | rfl | rfl | rfl | rfl | rfl | rfl
          · have hi : 0 < d.size := by omega
            have q6 := h.k6
            refine wpOp_plain rfl rfl ?_
            go_simp
            exact ⟨_, rfl, { bel := h.bel, siz := (by simpa using h.siz), kp := rk h.kp, k0 := rs h.k0, k3 := rs h.k3, k6 := rs h.k6, p0 := fun _ => set_same (by have := h.siz; omega), p1 := rp hi h.p1, p2 := rp hi h.p2, p3 := rp hi h.p3, p4 := rp hi h.p4, p5 := rp hi h.p5, p6 := rp hi h.p6, p7 := rp hi h.p7, p8 := rp hi h.p8, p9 := rp hi h.p9, p10 := rp hi h.p10, p11 := rp hi h.p11 }⟩
          · have hi : 1 < d.size := by omega
            have q0 := h.k0
            refine wpOp_plain rfl rfl ?_
            go_simp
            exact ⟨_, rfl, { bel := h.bel, siz := (by simpa using h.siz), kp := rk h.kp, k0 := rs h.k0, k3 := rs h.k3, k6 := rs h.k6, p0 := rp hi h.p0, p1 := fun _ => set_same (by have := h.siz; omega), p2 := rp hi h.p2, p3 := rp hi h.p3, p4 := rp hi h.p4, p5 := rp hi h.p5, p6 := rp hi h.p6, p7 := rp hi h.p7, p8 := rp hi h.p8, p9 := rp hi h.p9, p10 := rp hi h.p10, p11 := rp hi h.p11 }⟩
          · have hi : 2 < d.size := by omega
            have e1 := h.p1 (hpre _ rfl ⟨1, .data⟩ (by simp) rfl)
            refine wpOp_plain rfl rfl ?_
            go_simp
            exact ⟨_, rfl, { bel := h.bel, siz := (by simpa using h.siz), kp := rk h.kp, k0 := rs h.k0, k3 := rs h.k3, k6 := rs h.k6, p0 := rp hi h.p0, p1 := rp hi h.p1, p2 := fun _ => set_same (by have := h.siz; omega), p3 := rp hi h.p3, p4 := rp hi h.p4, p5 := rp hi h.p5, p6 := rp hi h.p6, p7 := rp hi h.p7, p8 := rp hi h.p8, p9 := rp hi h.p9, p10 := rp hi h.p10, p11 := rp hi h.p11 }⟩
          · have hi : 3 < d.size := by omega
            have e0 := h.p0 (hpre _ rfl ⟨0, .data⟩ (by simp) rfl)
            have e2 := h.p2 (hpre _ rfl ⟨2, .data⟩ (by simp) rfl)
            refine wpOp_plain rfl rfl ?_
            go_simp
            exact ⟨_, rfl, { bel := h.bel, siz := (by simpa using h.siz), kp := rk h.kp, k0 := rs h.k0, k3 := rs h.k3, k6 := rs h.k6, p0 := rp hi h.p0, p1 := rp hi h.p1, p2 := rp hi h.p2, p3 := fun _ => set_same (by have := h.siz; omega), p4 := rp hi h.p4, p5 := rp hi h.p5, p6 := rp hi h.p6, p7 := rp hi h.p7, p8 := rp hi h.p8, p9 := rp hi h.p9, p10 := rp hi h.p10, p11 := rp hi h.p11 }⟩
          · have hi : 4 < d.size := by omega
            have e3 := h.p3 (hpre _ rfl ⟨3, .data⟩ (by simp) rfl)
            refine wpOp_plain rfl rfl ?_
            go_simp
            exact ⟨_, rfl, { bel := h.bel, siz := (by simpa using h.siz), kp := rk h.kp, k0 := rs h.k0, k3 := rs h.k3, k6 := rs h.k6, p0 := rp hi h.p0, p1 := rp hi h.p1, p2 := rp hi h.p2, p3 := rp hi h.p3, p4 := fun _ => set_same (by have := h.siz; omega), p5 := rp hi h.p5, p6 := rp hi h.p6, p7 := rp hi h.p7, p8 := rp hi h.p8, p9 := rp hi h.p9, p10 := rp hi h.p10, p11 := rp hi h.p11 }⟩
          · have hi : 5 < d.size := by omega
            have q0 := h.k0
            refine wpOp_guard rfl (wanted_of (d := 11) rfl rfl (h.p4 (hpre _ rfl ⟨4, .guard⟩ (by simp) rfl))) ?_
            go_simp
            exact ⟨_, rfl, { bel := h.bel, siz := (by simpa using h.siz), kp := rk h.kp, k0 := rs h.k0, k3 := rs h.k3, k6 := rs h.k6, p0 := rp hi h.p0, p1 := rp hi h.p1, p2 := rp hi h.p2, p3 := rp hi h.p3, p4 := rp hi h.p4, p5 := fun _ => set_same (by have := h.siz; omega), p6 := rp hi h.p6, p7 := rp hi h.p7, p8 := rp hi h.p8, p9 := rp hi h.p9, p10 := rp hi h.p10, p11 := rp hi h.p11 }⟩
          · have hi : 6 < d.size := by omega
            have q6 := h.k6
            refine wpOp_guard rfl (wanted_of (d := 11) rfl rfl (h.p4 (hpre _ rfl ⟨4, .guard⟩ (by simp) rfl))) ?_
            go_simp
            exact ⟨_, rfl, { bel := h.bel, siz := (by simpa using h.siz), kp := rk h.kp, k0 := rs h.k0, k3 := rs h.k3, k6 := rs h.k6, p0 := rp hi h.p0, p1 := rp hi h.p1, p2 := rp hi h.p2, p3 := rp hi h.p3, p4 := rp hi h.p4, p5 := rp hi h.p5, p6 := fun _ => set_same (by have := h.siz; omega), p7 := rp hi h.p7, p8 := rp hi h.p8, p9 := rp hi h.p9, p10 := rp hi h.p10, p11 := rp hi h.p11 }⟩
          · have hi : 7 < d.size := by omega
            have e5 := h.p5 (hpre _ rfl ⟨5, .data⟩ (by simp) rfl)
            have e6 := h.p6 (hpre _ rfl ⟨6, .data⟩ (by simp) rfl)
            refine wpOp_guard rfl (wanted_of (d := 11) rfl rfl (h.p4 (hpre _ rfl ⟨4, .guard⟩ (by simp) rfl))) ?_
            go_simp
            exact ⟨_, rfl, { bel := h.bel, siz := (by simpa using h.siz), kp := rk h.kp, k0 := rs h.k0, k3 := rs h.k3, k6 := rs h.k6, p0 := rp hi h.p0, p1 := rp hi h.p1, p2 := rp hi h.p2, p3 := rp hi h.p3, p4 := rp hi h.p4, p5 := rp hi h.p5, p6 := rp hi h.p6, p7 := fun _ => set_same (by have := h.siz; omega), p8 := rp hi h.p8, p9 := rp hi h.p9, p10 := rp hi h.p10, p11 := rp hi h.p11 }⟩
          · have hi : 8 < d.size := by omega
            have e7 := h.p7 (hpre _ rfl ⟨7, .data⟩ (by simp) rfl)
            obtain ⟨m0, m1, m2, m3, n0, n1, n2, n3⟩ := CQ.out wc h.bel
            refine wpOp_guard rfl (wanted_of (d := 11) rfl rfl (h.p4 (hpre _ rfl ⟨4, .guard⟩ (by simp) rfl))) ?_
            go_simp
            exact ⟨_, rfl, { bel := h.bel, siz := (by simpa using h.siz), kp := rk h.kp, k0 := rs h.k0, k3 := rs h.k3, k6 := rs h.k6, p0 := rp hi h.p0, p1 := rp hi h.p1, p2 := rp hi h.p2, p3 := rp hi h.p3, p4 := rp hi h.p4, p5 := rp hi h.p5, p6 := rp hi h.p6, p7 := rp hi h.p7, p8 := fun _ => set_same (by have := h.siz; omega), p9 := rp hi h.p9, p10 := rp hi h.p10, p11 := rp hi h.p11 }⟩
          · have hi : 9 < d.size := by omega
            have q3 := h.k3
            obtain ⟨m0, m1, m2, m3, n0, n1, n2, n3⟩ := CQ.out wc h.bel
            refine wpOp_guard rfl (wanted_of (d := 11) rfl rfl (h.p4 (hpre _ rfl ⟨4, .guard⟩ (by simp) rfl))) ?_
            go_simp
            exact ⟨_, rfl, { bel := h.bel, siz := (by simpa using h.siz), kp := rk h.kp, k0 := rs h.k0, k3 := rs h.k3, k6 := rs h.k6, p0 := rp hi h.p0, p1 := rp hi h.p1, p2 := rp hi h.p2, p3 := rp hi h.p3, p4 := rp hi h.p4, p5 := rp hi h.p5, p6 := rp hi h.p6, p7 := rp hi h.p7, p8 := rp hi h.p8, p9 := fun _ => set_same (by have := h.siz; omega), p10 := rp hi h.p10, p11 := rp hi h.p11 }⟩
          · have hi : 10 < d.size := by omega
            have e8 := h.p8 (hpre _ rfl ⟨8, .data⟩ (by simp) rfl)
            have e9 := h.p9 (hpre _ rfl ⟨9, .data⟩ (by simp) rfl)
            refine wpOp_guard rfl (wanted_of (d := 11) rfl rfl (h.p4 (hpre _ rfl ⟨4, .guard⟩ (by simp) rfl))) ?_
            go_simp
            refine (HLS.out wc).mono ?_
            rintro e1 w1 ⟨rfl, hb⟩
            exact ⟨_, rfl, { bel := h.bel.trans (hb.mono h.bel.size), siz := (by simpa using h.siz), kp := rk h.kp, k0 := rs h.k0, k3 := rs h.k3, k6 := rs h.k6, p0 := rp hi h.p0, p1 := rp hi h.p1, p2 := rp hi h.p2, p3 := rp hi h.p3, p4 := rp hi h.p4, p5 := rp hi h.p5, p6 := rp hi h.p6, p7 := rp hi h.p7, p8 := rp hi h.p8, p9 := rp hi h.p9, p10 := fun _ => set_same (by have := h.siz; omega), p11 := rp hi h.p11 }⟩
          · have hi : 11 < d.size := by omega
            have e4 := h.p4 (hpre _ rfl ⟨4, .data⟩ (by simp) rfl)
            have e10 := h.p10 (hpre _ rfl ⟨10, .data⟩ (by simp) rfl)
            refine wpOp_plain rfl rfl ?_
            go_simp
            exact ⟨_, rfl, { bel := h.bel, siz := (by simpa using h.siz), kp := rk h.kp, k0 := rs h.k0, k3 := rs h.k3, k6 := rs h.k6, p0 := rp hi h.p0, p1 := rp hi h.p1, p2 := rp hi h.p2, p3 := rp hi h.p3, p4 := rp hi h.p4, p5 := rp hi h.p5, p6 := rp hi h.p6, p7 := rp hi h.p7, p8 := rp hi h.p8, p9 := rp hi h.p9, p10 := rp hi h.p10, p11 := fun _ => set_same (by have := h.siz; omega) }⟩
        case gendb =>
          intro d a wc hd hI hall
          obtain ⟨t, rfl, h⟩ := hI
          have hdn : ∀ j, j < 12 → dn d j := fun j hj => dn_all hd hall hj
          have hd : ∀ j, (_ : j < 12 := by decide) → dn d j := fun j hj => hdn j hj
          have hfe := frame_eq [(7, _), (8, _), (9, _), (10, _), (11, _), (12, _), (13, _), (14, _), (15, _), (16, _), (17, _), (18, _)] (h.siz.trans rfl) h.kp rfl ⟨h.p0 (hd 0), h.p1 (hd 1), h.p2 (hd 2), h.p3 (hd 3), h.p4 (hd 4), h.p5 (hd 5), h.p6 (hd 6), h.p7 (hd 7), h.p8 (hd 8), h.p9 (hd 9), h.p10 (hd 10), h.p11 (hd 11), trivial⟩
          simp only [List.foldl_cons, List.foldl_nil, List.setIfInBounds_toArray, List.set_cons_succ, List.set_cons_zero] at hfe
          have hbc := h.bel
          subst hfe
          clear h hdn hd hall
          have HBX := Lib.hid (HBR.out.trans (hbc.mono HBR.out.size))
          have HOX := Lib.hid (keep_own HOK.out hbc)
          obtain ⟨m0, m1, m2, m3, n0, n1, n2, n3⟩ := CQ.out wc hbc
          clear hbc
          rcases hne with h1 | ⟨h0, h1⟩ | ⟨h0, h0', h1⟩ | ⟨h0, h0', h0'', h1⟩
          case' inl =>
            have e1 : (ka == kv) = false := by rw [beq_eq_false_iff_ne]; exact h1
            clear h1
          case' inr.inl =>
            have e1 : (ka == kv) = true := by rw [beq_iff_eq]; exact h0
            have e2 : (sa.toList == sv.toList) = false := Lx.toList_ne h1
            clear h0 h1
          case' inr.inr.inl =>
            have e1 : (ka == kv) = true := by rw [beq_iff_eq]; exact h0
            have e2 : (sa.toList == sv.toList) = true := by rw [beq_iff_eq]; exact congrArg ByteArray.toList h0'
            have e3 : (la == lv) = false := by rw [beq_eq_false_iff_ne]; exact h1
            clear h0 h0' h1
          case' inr.inr.inr =>
            have e1 : (ka == kv) = true := by rw [beq_iff_eq]; exact h0
            have e2 : (sa.toList == sv.toList) = true := by rw [beq_iff_eq]; exact congrArg ByteArray.toList h0'
            have e3 : (la == lv) = true := by rw [beq_iff_eq]; exact h0''
            have e4 : (ha == hv) = false := by rw [beq_eq_false_iff_ne]; exact h1
            clear h0 h0' h0'' h1
          all_goals
            go_upto_region 6 with fail
            go_quiet (fail)
            generalize hwd : World.drewN _ _ = wd
            have HBD : Hid (Below W1.heap.size W1 wd) := Lib.hid (by rw [← hwd]; exact below_drewN HBX.out _)
            have HOD : Hid (wd.ownsRow W1.heap.size 60 4 (.slice Av k cv) k ((l.take k).flatMap encValue)) := Lib.hid (by rw [← hwd]; exact keep_own HOX.out (below_drewN (Below.refl _ _) _))
            clear hwd m0 m1 m2 m3 n0 n1 n2 n3
            obtain ⟨n0, n1, n2, n3⟩ := CX.out wd HBD.out
            have HOS : Hid ((wd.alloc (.cells #[.int .i64 kv, .string sv, .int .i64 lv, .int .i64 hv] 60)).ownsRow W1.heap.size 60 4 (.slice Av k cv) k ((l.take k).flatMap encValue)) := Lib.hid (keep_own HOD.out ((Below.refl _ _).alloc (Nat.le_refl _) _))
            have HRD := Lib.hid (rd_one_value wd (⟨kv, sv, lv, hv⟩ : Sg.Value))
            have hk1 : k + 1 ≤ maxLen := by simp only [maxLen]; omega
            have hk2 : (k + 1) * 40 ≤ 140737488355328 := by omega
            have hbase : W1.heap.size ≤ (wd.alloc (.cells #[.int .i64 kv, .string sv, .int .i64 lv, .int .i64 hv] 60)).heap.size := by have := HBD.out.size; simp; omega
            go_wp2_with (at_builtin; go_must (refine wpList_append_rd (enc := encValue) rfl (.tmp 40) (.tmp 42) _ rfl W1.heap.size 60 i1 _ 4 40 len_value one_value Tryz.underlying47 hi1 hz1 hs1' hb1' rfl (by decide) (.slice Av k cv) k ((l.take k).flatMap encValue) rfl HOS.out _ (.slice (some ⟨wd.heap.size, 0, none⟩) 1 1) [(⟨kv, sv, lv, hv⟩ : Sg.Value)] rfl HRD.out hk1 hk2 hbase ?_))
            intro v8 w8 hown8 hg8 hat8
            have HB8 : Hid (Below W1.heap.size W1 w8) := Lib.hid ((HBD.out.alloc HBD.out.size _).grown hg8 hbase (fun q hq => (HOS.out.lt q hq).1))
            have HO8 : Hid (w8.ownsRow W1.heap.size 60 4 v8 (k + 1) (((l.take k) ++ [(⟨kv, sv, lv, hv⟩ : Sg.Value)]).flatMap encValue)) := Lib.hid (by rw [List.flatMap_append]; simpa using hown8)
            clear hown8 hg8 hat8
            clear n0 n1 n2 n3
            obtain ⟨A8, c8, hv8⟩ := own_formN HO8.out
            subst hv8
            have HOS : Hid (w8.ownsRow W1.heap.size 60 4 (.slice A8 (k + 1) c8) (k + 1) ((l.take k ++ [(⟨kv, sv, lv, hv⟩ : Sg.Value)]).flatMap encValue)) := Lib.hid HO8.out
            have HRD : Hid (RdS w8 w.heap.size 4 encValue (.slice (some ⟨b, off + k * 4, none⟩) (l.length - k) (c - k)) (l.drop k)) := Lib.hid (rds_drop (HR.out.below (HB1.out.trans (HB8.out.mono (by omega)))) hk)
            have hdl : (l.drop k).length = l.length - k := List.length_drop
            have hk1 : (k + 1) + (l.drop k).length ≤ maxLen := by simp only [maxLen]; omega
            have hk2 : ((k + 1) + (l.drop k).length) * 40 ≤ 140737488355328 := by omega
            have hbase : W1.heap.size ≤ w8.heap.size := HB8.out.size
            have q1 : (k : Int) ≤ (l.length : Int) := by omega
            have q2 : (l.length : Int) ≤ (c : Int) := by omega
            have q3 : (0 : Int) ≤ (k : Int) := by omega
            go_wp2_with (at_builtin; go_must (refine wpList_append_rd (enc := encValue) rfl (.tmp 44) (.tmp 47) _ rfl W1.heap.size 60 i1 _ 4 40 len_value one_value Tryz.underlying47 hi1 hz1 hs1' hb1' rfl (by decide) (.slice A8 (k + 1) c8) (k + 1) ((l.take k ++ [(⟨kv, sv, lv, hv⟩ : Sg.Value)]).flatMap encValue) rfl HOS.out w.heap.size (.slice (some ⟨b, off + k * 4, none⟩) (l.length - k) (c - k)) (l.drop k) rfl HRD.out hk1 hk2 hbase ?_))
            intro v9 w9 hown8 hg8 hat8
            have HB9 : Hid (Below W1.heap.size W1 w9) := Lib.hid (HB8.out.grown hg8 hbase (fun q hq => (HOS.out.lt q hq).1))
            have HO9 := Lib.hid hown8
            clear hown8 hg8 hat8
            go_wp2_with fail
            go_ret
            exact ⟨_, rfl, (own_appQ HO9.out (by rw [HSP.out]; simp; omega) (by rw [HSP.out]; simp)).mono (Nat.le_of_lt hs1), HB1.out.trans (HB9.out.mono (by omega))⟩
    · obtain rfl : k = l.length := by omega
      have hsp : Sg.putV ⟨kv, sv, lv, hv⟩ l = l.take l.length ++ [⟨kv, sv, lv, hv⟩] := by
        rw [Sg.put_split l.length HKL.out, List.drop_length]; rfl
      have HSP := Lib.hid hsp
      clear hsp hlt
      go_upto_region 3 with fail
      refine wp_region_inv2T (fun T0 => PuaI T0 wr (.slice (some ⟨b, off, none⟩) l.length c) l.length w.heap.size) (by kernel_rfl) (by kernel_rfl) ?g0a ?gstepa ?genda
      case g0a =>
        have hno : ∀ j, ¬ dn (Array.replicate 12 false) j := by
          intro j; unfold dn; by_cases hj : j < 12 <;> simp [Array.getD, hj]
        have na : ∀ {j : Nat} {Z : Prop}, dn (Array.replicate 12 false) j → Z := fun hj => absurd hj (hno _)
        exact ⟨_, rfl, { bel := (Below.refl _ _).drew, siz := rfl, kp := fun _ _ => rfl, k0 := rfl, k3 := rfl, k6 := rfl, p0 := na, p1 := na, p2 := na, p3 := na, p4 := na, p5 := na, p6 := na, p7 := na, p8 := na, p9 := na, p10 := na, p11 := na }⟩
      case gstepa =>
        intro T0 d a wc i hd hI hi
        obtain ⟨hlt, hnd, hpre⟩ := mem_ready hi
        have hd' : d.size = 12 := hd
        have hin : i < 12 := hlt
        clear hi hd hlt
        obtain ⟨t, rfl, h⟩ := hI
        have hcs : i = 0 ∨ i = 1 ∨ i = 2 ∨ i = 3 ∨ i = 4 ∨ i = 5 ∨ i = 6 ∨ i = 7 ∨ i = 8 ∨ i = 9 ∨ i = 10 ∨ i = 11 := by omega
        rcases hcs with rfl | rfl | rfl | rfl | rfl | rfl | rfl | rfl | rfl | rfl | rfl | rfl
        · have hi : 0 < d.size := by omega
          have q6 := h.k6
          refine wpOp_plain rfl rfl ?_
          go_simp
          exact ⟨_, rfl, { bel := h.bel, siz := (by simpa using h.siz), kp := rk h.kp, k0 := rs h.k0, k3 := rs h.k3, k6 := rs h.k6, p0 := fun _ => set_same (by have := h.siz; omega), p1 := rp hi h.p1, p2 := rp hi h.p2, p3 := rp hi h.p3, p4 := rp hi h.p4, p5 := rp hi h.p5, p6 := rp hi h.p6, p7 := rp hi h.p7, p8 := rp hi h.p8, p9 := rp hi h.p9, p10 := rp hi h.p10, p11 := rp hi h.p11 }⟩
        · have hi : 1 < d.size := by omega
          have q0 := h.k0
          refine wpOp_plain rfl rfl ?_
          go_simp
          exact ⟨_, rfl, { bel := h.bel, siz := (by simpa using h.siz), kp := rk h.kp, k0 := rs h.k0, k3 := rs h.k3, k6 := rs h.k6, p0 := rp hi h.p0, p1 := fun _ => set_same (by have := h.siz; omega), p2 := rp hi h.p2, p3 := rp hi h.p3, p4 := rp hi h.p4, p5 := rp hi h.p5, p6 := rp hi h.p6, p7 := rp hi h.p7, p8 := rp hi h.p8, p9 := rp hi h.p9, p10 := rp hi h.p10, p11 := rp hi h.p11 }⟩
        · have hi : 2 < d.size := by omega
          have e1 := h.p1 (hpre _ rfl ⟨1, .data⟩ (by simp) rfl)
          refine wpOp_plain rfl rfl ?_
          go_simp
          exact ⟨_, rfl, { bel := h.bel, siz := (by simpa using h.siz), kp := rk h.kp, k0 := rs h.k0, k3 := rs h.k3, k6 := rs h.k6, p0 := rp hi h.p0, p1 := rp hi h.p1, p2 := fun _ => set_same (by have := h.siz; omega), p3 := rp hi h.p3, p4 := rp hi h.p4, p5 := rp hi h.p5, p6 := rp hi h.p6, p7 := rp hi h.p7, p8 := rp hi h.p8, p9 := rp hi h.p9, p10 := rp hi h.p10, p11 := rp hi h.p11 }⟩
        · have hi : 3 < d.size := by omega
          have e0 := h.p0 (hpre _ rfl ⟨0, .data⟩ (by simp) rfl)
          have e2 := h.p2 (hpre _ rfl ⟨2, .data⟩ (by simp) rfl)
          refine wpOp_plain rfl rfl ?_
          go_simp
          exact ⟨_, rfl, { bel := h.bel, siz := (by simpa using h.siz), kp := rk h.kp, k0 := rs h.k0, k3 := rs h.k3, k6 := rs h.k6, p0 := rp hi h.p0, p1 := rp hi h.p1, p2 := rp hi h.p2, p3 := fun _ => set_same (by have := h.siz; omega), p4 := rp hi h.p4, p5 := rp hi h.p5, p6 := rp hi h.p6, p7 := rp hi h.p7, p8 := rp hi h.p8, p9 := rp hi h.p9, p10 := rp hi h.p10, p11 := rp hi h.p11 }⟩
        · have hi : 4 < d.size := by omega
          have e3 := h.p3 (hpre _ rfl ⟨3, .data⟩ (by simp) rfl)
          refine wpOp_plain rfl rfl ?_
          go_simp
          exact ⟨_, rfl, { bel := h.bel, siz := (by simpa using h.siz), kp := rk h.kp, k0 := rs h.k0, k3 := rs h.k3, k6 := rs h.k6, p0 := rp hi h.p0, p1 := rp hi h.p1, p2 := rp hi h.p2, p3 := rp hi h.p3, p4 := fun _ => set_same (by have := h.siz; omega), p5 := rp hi h.p5, p6 := rp hi h.p6, p7 := rp hi h.p7, p8 := rp hi h.p8, p9 := rp hi h.p9, p10 := rp hi h.p10, p11 := rp hi h.p11 }⟩
        · have hi : 5 < d.size := by omega
          refine wpOp_idle rfl (unwanted_of (d := 11) rfl rfl (h.p4 (hpre _ rfl ⟨4, .guard⟩ (by simp) rfl)) (by decide)) ?_
          exact ⟨_, rfl, { bel := h.bel, siz := (by simpa using h.siz), kp := rk h.kp, k0 := rs h.k0, k3 := rs h.k3, k6 := rs h.k6, p0 := rp hi h.p0, p1 := rp hi h.p1, p2 := rp hi h.p2, p3 := rp hi h.p3, p4 := rp hi h.p4, p5 := fun _ => set_same (by have := h.siz; show _ < t.size; omega), p6 := rp hi h.p6, p7 := rp hi h.p7, p8 := rp hi h.p8, p9 := rp hi h.p9, p10 := rp hi h.p10, p11 := rp hi h.p11 }⟩
        · have hi : 6 < d.size := by omega
          refine wpOp_idle rfl (unwanted_of (d := 11) rfl rfl (h.p4 (hpre _ rfl ⟨4, .guard⟩ (by simp) rfl)) (by decide)) ?_
          exact ⟨_, rfl, { bel := h.bel, siz := (by simpa using h.siz), kp := rk h.kp, k0 := rs h.k0, k3 := rs h.k3, k6 := rs h.k6, p0 := rp hi h.p0, p1 := rp hi h.p1, p2 := rp hi h.p2, p3 := rp hi h.p3, p4 := rp hi h.p4, p5 := rp hi h.p5, p6 := fun _ => set_same (by have := h.siz; show _ < t.size; omega), p7 := rp hi h.p7, p8 := rp hi h.p8, p9 := rp hi h.p9, p10 := rp hi h.p10, p11 := rp hi h.p11 }⟩
        · have hi : 7 < d.size := by omega
          refine wpOp_idle rfl (unwanted_of (d := 11) rfl rfl (h.p4 (hpre _ rfl ⟨4, .guard⟩ (by simp) rfl)) (by decide)) ?_
          exact ⟨_, rfl, { bel := h.bel, siz := (by simpa using h.siz), kp := rk h.kp, k0 := rs h.k0, k3 := rs h.k3, k6 := rs h.k6, p0 := rp hi h.p0, p1 := rp hi h.p1, p2 := rp hi h.p2, p3 := rp hi h.p3, p4 := rp hi h.p4, p5 := rp hi h.p5, p6 := rp hi h.p6, p7 := fun _ => set_same (by have := h.siz; show _ < t.size; omega), p8 := rp hi h.p8, p9 := rp hi h.p9, p10 := rp hi h.p10, p11 := rp hi h.p11 }⟩
        · have hi : 8 < d.size := by omega
          refine wpOp_idle rfl (unwanted_of (d := 11) rfl rfl (h.p4 (hpre _ rfl ⟨4, .guard⟩ (by simp) rfl)) (by decide)) ?_
          exact ⟨_, rfl, { bel := h.bel, siz := (by simpa using h.siz), kp := rk h.kp, k0 := rs h.k0, k3 := rs h.k3, k6 := rs h.k6, p0 := rp hi h.p0, p1 := rp hi h.p1, p2 := rp hi h.p2, p3 := rp hi h.p3, p4 := rp hi h.p4, p5 := rp hi h.p5, p6 := rp hi h.p6, p7 := rp hi h.p7, p8 := fun _ => set_same (by have := h.siz; show _ < t.size; omega), p9 := rp hi h.p9, p10 := rp hi h.p10, p11 := rp hi h.p11 }⟩
        · have hi : 9 < d.size := by omega
          refine wpOp_idle rfl (unwanted_of (d := 11) rfl rfl (h.p4 (hpre _ rfl ⟨4, .guard⟩ (by simp) rfl)) (by decide)) ?_
          exact ⟨_, rfl, { bel := h.bel, siz := (by simpa using h.siz), kp := rk h.kp, k0 := rs h.k0, k3 := rs h.k3, k6 := rs h.k6, p0 := rp hi h.p0, p1 := rp hi h.p1, p2 := rp hi h.p2, p3 := rp hi h.p3, p4 := rp hi h.p4, p5 := rp hi h.p5, p6 := rp hi h.p6, p7 := rp hi h.p7, p8 := rp hi h.p8, p9 := fun _ => set_same (by have := h.siz; show _ < t.size; omega), p10 := rp hi h.p10, p11 := rp hi h.p11 }⟩
        · have hi : 10 < d.size := by omega
          refine wpOp_idle rfl (unwanted_of (d := 11) rfl rfl (h.p4 (hpre _ rfl ⟨4, .guard⟩ (by simp) rfl)) (by decide)) ?_
          exact ⟨_, rfl, { bel := h.bel, siz := (by simpa using h.siz), kp := rk h.kp, k0 := rs h.k0, k3 := rs h.k3, k6 := rs h.k6, p0 := rp hi h.p0, p1 := rp hi h.p1, p2 := rp hi h.p2, p3 := rp hi h.p3, p4 := rp hi h.p4, p5 := rp hi h.p5, p6 := rp hi h.p6, p7 := rp hi h.p7, p8 := rp hi h.p8, p9 := rp hi h.p9, p10 := fun _ => set_same (by have := h.siz; show _ < t.size; omega), p11 := rp hi h.p11 }⟩
        · have hi : 11 < d.size := by omega
          have e4 := h.p4 (hpre _ rfl ⟨4, .data⟩ (by simp) rfl)
          have e10 := h.p10 (hpre _ rfl ⟨10, .data⟩ (by simp) rfl)
          refine wpOp_plain rfl rfl ?_
          go_simp
          exact ⟨_, rfl, { bel := h.bel, siz := (by simpa using h.siz), kp := rk h.kp, k0 := rs h.k0, k3 := rs h.k3, k6 := rs h.k6, p0 := rp hi h.p0, p1 := rp hi h.p1, p2 := rp hi h.p2, p3 := rp hi h.p3, p4 := rp hi h.p4, p5 := rp hi h.p5, p6 := rp hi h.p6, p7 := rp hi h.p7, p8 := rp hi h.p8, p9 := rp hi h.p9, p10 := rp hi h.p10, p11 := fun _ => set_same (by have := h.siz; omega) }⟩
      case genda =>
        intro d a wc hd hI hall
        obtain ⟨t, rfl, h⟩ := hI
        have hdn : ∀ j, j < 12 → dn d j := fun j hj => dn_all hd hall hj
        have hd : ∀ j, (_ : j < 12 := by decide) → dn d j := fun j hj => hdn j hj
        have hfe := frame_eq [(7, _), (8, _), (9, _), (10, _), (11, _), (12, _), (13, _), (14, _), (15, _), (16, _), (17, _), (18, _)] (h.siz.trans rfl) h.kp rfl ⟨h.p0 (hd 0), h.p1 (hd 1), h.p2 (hd 2), h.p3 (hd 3), h.p4 (hd 4), h.p5 (hd 5), h.p6 (hd 6), h.p7 (hd 7), h.p8 (hd 8), h.p9 (hd 9), h.p10 (hd 10), h.p11 (hd 11), trivial⟩
        simp only [List.foldl_cons, List.foldl_nil, List.setIfInBounds_toArray, List.set_cons_succ, List.set_cons_zero] at hfe
        have hbc := h.bel
        subst hfe
        clear h hdn hd hall
        have HBX := Lib.hid (HBR.out.trans (hbc.mono HBR.out.size))
        have HOX := Lib.hid (keep_own HOK.out hbc)
        obtain ⟨n0, n1, n2, n3⟩ := CX.out wc HBX.out
        clear hbc hbel
        go_upto_region 6 with fail
        go_quiet (fail)
        generalize hwd : World.drewN _ _ = wd
        have HBD : Hid (Below W1.heap.size W1 wd) := Lib.hid (by rw [← hwd]; exact below_drewN HBX.out _)
        have HOD : Hid (wd.ownsRow W1.heap.size 60 4 (.slice Av l.length cv) l.length ((l.take l.length).flatMap encValue)) := Lib.hid (by rw [← hwd]; exact keep_own HOX.out (below_drewN (Below.refl _ _) _))
        clear hwd n0 n1 n2 n3
        obtain ⟨n0, n1, n2, n3⟩ := CX.out wd HBD.out
        have HOS : Hid ((wd.alloc (.cells #[.int .i64 kv, .string sv, .int .i64 lv, .int .i64 hv] 60)).ownsRow W1.heap.size 60 4 (.slice Av l.length cv) l.length ((l.take l.length).flatMap encValue)) := Lib.hid (keep_own HOD.out ((Below.refl _ _).alloc (Nat.le_refl _) _))
        have HRD := Lib.hid (rd_one_value wd (⟨kv, sv, lv, hv⟩ : Sg.Value))
        have hk1 : l.length + 1 ≤ maxLen := by simp only [maxLen]; omega
        have hk2 : (l.length + 1) * 40 ≤ 140737488355328 := by omega
        have hbase : W1.heap.size ≤ (wd.alloc (.cells #[.int .i64 kv, .string sv, .int .i64 lv, .int .i64 hv] 60)).heap.size := by have := HBD.out.size; simp; omega
        go_wp2_with (at_builtin; go_must (refine wpList_append_rd (enc := encValue) rfl (.tmp 40) (.tmp 42) _ rfl W1.heap.size 60 i1 _ 4 40 len_value one_value Tryz.underlying47 hi1 hz1 hs1' hb1' rfl (by decide) (.slice Av l.length cv) l.length ((l.take l.length).flatMap encValue) rfl HOS.out _ (.slice (some ⟨wd.heap.size, 0, none⟩) 1 1) [(⟨kv, sv, lv, hv⟩ : Sg.Value)] rfl HRD.out hk1 hk2 hbase ?_))
        intro v8 w8 hown8 hg8 hat8
        have HB8 : Hid (Below W1.heap.size W1 w8) := Lib.hid ((HBD.out.alloc HBD.out.size _).grown hg8 hbase (fun q hq => (HOS.out.lt q hq).1))
        have HO8 : Hid (w8.ownsRow W1.heap.size 60 4 v8 (l.length + 1) (((l.take l.length) ++ [(⟨kv, sv, lv, hv⟩ : Sg.Value)]).flatMap encValue)) := Lib.hid (by rw [List.flatMap_append]; simpa using hown8)
        clear hown8 hg8 hat8
        clear n0 n1 n2 n3
        obtain ⟨A8, c8, hv8⟩ := own_formN HO8.out
        subst hv8
        by_cases hcl : c = l.length
        · subst hcl
          have HOS : Hid (w8.ownsRow W1.heap.size 60 4 (.slice A8 (l.length + 1) c8) (l.length + 1) ((l.take l.length ++ [(⟨kv, sv, lv, hv⟩ : Sg.Value)]).flatMap encValue)) := Lib.hid HO8.out
          have HRD : Hid (RdS w8 w.heap.size 4 encValue (.slice (some ⟨b, off, none⟩) 0 0) ([] : List Sg.Value)) := Lib.hid (rds_void (by omega))
          have hk1 : (l.length + 1) + ([] : List Sg.Value).length ≤ maxLen := by simp only [maxLen, List.length_nil]; omega
          have hk2 : ((l.length + 1) + ([] : List Sg.Value).length) * 40 ≤ 140737488355328 := by simp only [List.length_nil]; omega
          have hbase : W1.heap.size ≤ w8.heap.size := HB8.out.size
          have q1 : (l.length : Int) ≤ (l.length : Int) := by omega
          have q2 : (l.length : Int) ≤ (l.length : Int) := by omega
          have q3 : (0 : Int) ≤ (l.length : Int) := by omega
          go_wp2_with (at_builtin; go_must (refine wpList_append_rd (enc := encValue) rfl (.tmp 44) (.tmp 47) _ rfl W1.heap.size 60 i1 _ 4 40 len_value one_value Tryz.underlying47 hi1 hz1 hs1' hb1' rfl (by decide) (.slice A8 (l.length + 1) c8) (l.length + 1) ((l.take l.length ++ [(⟨kv, sv, lv, hv⟩ : Sg.Value)]).flatMap encValue) rfl HOS.out w.heap.size (.slice (some ⟨b, off, none⟩) 0 0) ([] : List Sg.Value) rfl HRD.out hk1 hk2 hbase ?_))
          intro v9 w9 hown8 hg8 hat8
          have HB9 : Hid (Below W1.heap.size W1 w9) := Lib.hid (HB8.out.grown hg8 hbase (fun q hq => (HOS.out.lt q hq).1))
          have HO9 := Lib.hid hown8
          clear hown8 hg8 hat8
          go_wp2_with fail
          go_ret
          exact ⟨_, rfl, by rw [HSP.out]; exact (own_appQ HO9.out (by simp) (by simp)).mono (Nat.le_of_lt hs1), HB1.out.trans (HB9.out.mono (by omega))⟩
        · skip
          have HOS : Hid (w8.ownsRow W1.heap.size 60 4 (.slice A8 (l.length + 1) c8) (l.length + 1) ((l.take l.length ++ [(⟨kv, sv, lv, hv⟩ : Sg.Value)]).flatMap encValue)) := Lib.hid HO8.out
          have HRD : Hid (RdS w8 w.heap.size 4 encValue (.slice (some ⟨b, off + l.length * 4, none⟩) 0 (c - l.length)) ([] : List Sg.Value)) := Lib.hid (rds_void (by omega))
          have hk1 : (l.length + 1) + ([] : List Sg.Value).length ≤ maxLen := by simp only [maxLen, List.length_nil]; omega
          have hk2 : ((l.length + 1) + ([] : List Sg.Value).length) * 40 ≤ 140737488355328 := by simp only [List.length_nil]; omega
          have hbase : W1.heap.size ≤ w8.heap.size := HB8.out.size
          have q1 : (l.length : Int) ≤ (l.length : Int) := by omega
          have q2 : (l.length : Int) ≤ (c : Int) := by omega
          have q3 : (0 : Int) ≤ (l.length : Int) := by omega
          go_wp2_with (at_builtin; go_must (refine wpList_append_rd (enc := encValue) rfl (.tmp 44) (.tmp 47) _ rfl W1.heap.size 60 i1 _ 4 40 len_value one_value Tryz.underlying47 hi1 hz1 hs1' hb1' rfl (by decide) (.slice A8 (l.length + 1) c8) (l.length + 1) ((l.take l.length ++ [(⟨kv, sv, lv, hv⟩ : Sg.Value)]).flatMap encValue) rfl HOS.out w.heap.size (.slice (some ⟨b, off + l.length * 4, none⟩) 0 (c - l.length)) ([] : List Sg.Value) rfl HRD.out hk1 hk2 hbase ?_))
          intro v9 w9 hown8 hg8 hat8
          have HB9 : Hid (Below W1.heap.size W1 w9) := Lib.hid (HB8.out.grown hg8 hbase (fun q hq => (HOS.out.lt q hq).1))
          have HO9 := Lib.hid hown8
          clear hown8 hg8 hat8
          go_wp2_with fail
          go_ret
          exact ⟨_, rfl, by rw [HSP.out]; exact (own_appQ HO9.out (by simp) (by simp)).mono (Nat.le_of_lt hs1), HB1.out.trans (HB9.out.mono (by omega))⟩
end Go.Proofs.YtkmimjngmfdpmaaGreatDoor
namespace Go.Proofs
open Go.Shelf
def Tryz.sortV_ren : Go.Shelf.Ren := ⟨fun | 6 => 121 | 15 => 147 | 14 => 146 | 28 => 174 | 29 => 175 | 20 => 166 | 21 => 167 | 22 => 168 | 23 => 169 | 24 => 170 | 25 => 171 | 26 => 172 | 27 => 173 | 46 => 186 | 47 => 187 | 48 => 188 | 49 => 189 | 50 => 190 | 57 => 194 | n => n, fun | 22 => 47 | 24 => 60 | 25 => 137 | 3 => 3 | 39 => 147 | 0 => 0 | 53 => 184 | 55 => 164 | 4 => 4 | 46 => 178 | 45 => 177 | 50 => 79 | 5 => 5 | 9 => 9 | 66 => 196 | 70 => 200 | 76 => 204 | 77 => 205 | n => n, fun | n => n⟩
theorem Tryz.sortV : Go.Proofs.SlLaysF0.n6 Tryz.prog Tryz.sortV_ren := {
  mixed := by kernel_rfl
  f6 := ⟨Tryz.f121.name, by decide, Tryz.func121.trans (congrArg some (by kernel_rfl))⟩
  f14 := ⟨Tryz.f146.name, by decide, Tryz.func146.trans (congrArg some (by kernel_rfl))⟩
  f15 := Tryz.func147.trans (congrArg some (by kernel_rfl))
  f20 := ⟨Tryz.f166.name, by decide, Tryz.func166.trans (congrArg some (by kernel_rfl))⟩
  f21 := ⟨Tryz.f167.name, by decide, Tryz.func167.trans (congrArg some (by kernel_rfl))⟩
  f22 := ⟨Tryz.f168.name, by decide, Tryz.func168.trans (congrArg some (by kernel_rfl))⟩
  f23 := ⟨Tryz.f169.name, by decide, Tryz.func169.trans (congrArg some (by kernel_rfl))⟩
  f24 := ⟨Tryz.f170.name, by decide, Tryz.func170.trans (congrArg some (by kernel_rfl))⟩
  f25 := ⟨Tryz.f171.name, by decide, Tryz.func171.trans (congrArg some (by kernel_rfl))⟩
  f26 := ⟨Tryz.f172.name, by decide, Tryz.func172.trans (congrArg some (by kernel_rfl))⟩
  f27 := ⟨Tryz.f173.name, by decide, Tryz.func173.trans (congrArg some (by kernel_rfl))⟩
  f28 := Tryz.func174.trans (congrArg some (by kernel_rfl))
  f29 := Tryz.func175.trans (congrArg some (by kernel_rfl))
  f46 := ⟨Tryz.f186.name, by decide, Tryz.func186.trans (congrArg some (by kernel_rfl))⟩
  f47 := Tryz.func187.trans (congrArg some (by kernel_rfl))
  f48 := Tryz.func188.trans (congrArg some (by kernel_rfl))
  f49 := ⟨Tryz.f189.name, by decide, Tryz.func189.trans (congrArg some (by kernel_rfl))⟩
  f50 := ⟨Tryz.f190.name, by decide, Tryz.func190.trans (congrArg some (by kernel_rfl))⟩
  f57 := ⟨Tryz.f194.name, by decide, Tryz.func194.trans (congrArg some (by kernel_rfl))⟩
  t0 := Tryz.underlying0
  a0 := Tryz.isAgg0
  z0 := Tryz.sizeOf0
  v0 := Tryz.zeroValue0
  t3 := Tryz.underlying3
  a3 := Tryz.isAgg3
  z3 := Tryz.sizeOf3
  v3 := Tryz.zeroValue3
  t4 := Tryz.underlying4
  a4 := Tryz.isAgg4
  z4 := Tryz.sizeOf4
  v4 := Tryz.zeroValue4
  t5 := Tryz.underlying5
  a5 := Tryz.isAgg5
  z5 := Tryz.sizeOf5
  v5 := Tryz.zeroValue5
  t9 := Tryz.underlying9
  a9 := Tryz.isAgg9
  z9 := Tryz.sizeOf9
  v9 := Tryz.zeroValue9
  t22 := Tryz.underlying47
  a22 := Tryz.isAgg47
  z22 := Tryz.sizeOf47
  v22 := Tryz.zeroValue47
  t25 := Tryz.underlying137
  a25 := Tryz.isAgg137
  z25 := Tryz.sizeOf137
  v25 := Tryz.zeroValue137
  t39 := Tryz.underlying147
  a39 := Tryz.isAgg147
  z39 := Tryz.sizeOf147
  v39 := Tryz.zeroValue147
  t45 := Tryz.underlying177
  a45 := Tryz.isAgg177
  z45 := Tryz.sizeOf177
  v45 := Tryz.zeroValue177
  t46 := Tryz.underlying178
  a46 := Tryz.isAgg178
  z46 := Tryz.sizeOf178
  v46 := Tryz.zeroValue178
  t50 := Tryz.underlying79
  a50 := Tryz.isAgg79
  z50 := Tryz.sizeOf79
  v50 := Tryz.zeroValue79
  t53 := Tryz.underlying184
  a53 := Tryz.isAgg184
  z53 := Tryz.sizeOf184
  v53 := Tryz.zeroValue184
  t55 := Tryz.underlying164
  a55 := Tryz.isAgg164
  z55 := Tryz.sizeOf164
  v55 := Tryz.zeroValue164
  t66 := Tryz.underlying196
  a66 := Tryz.isAgg196
  z66 := Tryz.sizeOf196
  v66 := Tryz.zeroValue196
  t70 := Tryz.underlying200
  a70 := Tryz.isAgg200
  z70 := Tryz.sizeOf200
  v70 := Tryz.zeroValue200
  t76 := Tryz.underlying204
  a76 := Tryz.isAgg204
  z76 := Tryz.sizeOf204
  v76 := Tryz.zeroValue204
  t77 := Tryz.underlying205
  a77 := Tryz.isAgg205
  z77 := Tryz.sizeOf205
  v77 := Tryz.zeroValue205 }
def Tryz.cloneV_ren : Go.Shelf.Ren := ⟨fun | 41 => 86 | n => n, fun | 22 => 47 | 23 => 60 | 4 => 4 | n => n, fun | n => n⟩
theorem Tryz.cloneV : Go.Proofs.SlLaysE0.n41 Tryz.prog Tryz.cloneV_ren := {
  mixed := by kernel_rfl
  f41 := ⟨Tryz.f86.name, by decide, Tryz.func86.trans (congrArg some (by kernel_rfl))⟩
  t4 := Tryz.underlying4
  a4 := Tryz.isAgg4
  z4 := Tryz.sizeOf4
  v4 := Tryz.zeroValue4
  t22 := Tryz.underlying47
  a22 := Tryz.isAgg47
  z22 := Tryz.sizeOf47
  v22 := Tryz.zeroValue47 }
end Go.Proofs
namespace Go.Proofs.YtkmimjngmfdpmaaGreatDoor
open Go Go.RowKit Go.Sort

instance : Inhabited Sg.Value := ⟨⟨0, ⟨#[]⟩, 0, 0⟩⟩
theorem flatK_list {α : Type} [Inhabited α] {enc : α → List Value} {k : Nat} (hk : 0 < k) (hu : ∀ x, (enc x).length = k) (L : List α) : (flatK enc k L.toArray).toList = L.flatMap enc := by
  refine List.ext_getElem? fun t => ?_
  by_cases ht : t < L.length * k
  · have h1 : (flatK enc k L.toArray).toList[t]? = some ((flatK enc k L.toArray)[t]!) := by
      rw [Array.getElem?_toList, Array.getElem?_eq_getElem (by simpa using ht), getElem!_pos _ _ (by simpa using ht)]
    have hi : t / k < L.length := (Nat.div_lt_iff_lt_mul hk).2 ht
    have hj : t % k < (enc L[t / k]).length := by rw [hu]; exact Nat.mod_lt _ hk
    have h2 := flat_at hu L (t / k) L[t / k] (List.getElem?_eq_getElem hi) (t % k) _ (List.getElem?_eq_getElem hj)
    rw [show t / k * k + t % k = t by have := Nat.div_add_mod t k; rw [Nat.mul_comm] at this; exact this] at h2
    rw [h1, h2, get_flatK enc k L.toArray t (by simpa using ht)]
    simp [getElem!_pos, hi, hj]
  · rw [List.getElem?_eq_none (by simp; omega), List.getElem?_eq_none (by rw [flat_len hu]; omega)]
theorem holdsK_of_own {w : World} {base g n cap : Nat} {L : List Sg.Value} (h : w.ownsRow base 60 4 (.slice (some ⟨g, 0, none⟩) n cap) n (L.flatMap encValue)) : HoldsK encValue 4 w g 0 L.toArray ∧ g < w.heap.size ∧ base ≤ g := by
  have hlt := h.lt g rfl
  refine ⟨fun j hj => ?_, hlt.2, hlt.1⟩
  have hj' : j < (flatK encValue 4 L.toArray).size := hj
  have h1 : (flatK encValue 4 L.toArray).toList[j]? = some ((flatK encValue 4 L.toArray)[j]!) := by
    rw [Array.getElem?_toList, Array.getElem?_eq_getElem hj', getElem!_pos (flatK encValue 4 L.toArray) j hj']
  rw [flatK_list (by decide) len_value] at h1
  have h2 := h.cells rfl j _ h1
  rw [addr_add] at h2
  refine ⟨h2, ?_⟩
  rcases h.2 with ⟨e, -⟩ | ⟨g', cap', cur, e, hg, hh, -⟩
  · cases e
  · cases e
    simp [World.frozen?, hh]
theorem own_putK {w : World} {base g n cap q : Nat} {L S : List Sg.Value} (os : Array Obj) (h : w.ownsRow base 60 4 (.slice (some ⟨g, 0, none⟩) n cap) n (L.flatMap encValue)) (hS : S.length = n) :
    (grow (putRowK encValue 4 (Sort.ahead w q) g 0 S.toArray) os).ownsRow base 60 4 (.slice (some ⟨g, 0, none⟩) n cap) n (S.flatMap encValue) := by
  have hlt := h.lt g rfl
  rcases h.2 with ⟨e, -⟩ | ⟨g', cap', cur, e, hg, hh, hle, hm, hs, ht⟩
  · cases e
  · cases e
    refine ⟨by rw [flat_len len_value, hS], .inr ⟨g, cap, putCells id 0 (flatK encValue 4 S.toArray) cur, rfl, hg, ?_, hle, hm, by simpa [putCells] using hs, ?_⟩⟩
    · have : (putRowK encValue 4 (Sort.ahead w q) g 0 S.toArray).heap[g]? = some (.cells (putCells id 0 (flatK encValue 4 S.toArray) cur) 60 (0, 0)) := by
        simp [putRowK, putRow, mapBlock, Sort.ahead, Array.getElem?_modify, hh, onCells]
      show ((putRowK encValue 4 (Sort.ahead w q) g 0 S.toArray).heap ++ os)[g]? = _
      rw [Array.getElem?_append_left (by rw [size_putRowK]; exact hlt.2), this]
    · rw [← flatK_list (by decide) len_value S]
      refine List.ext_getElem? fun j => ?_
      rw [List.getElem?_take, Array.getElem?_toList, Array.getElem?_toList]
      have hsz : (flatK encValue 4 S.toArray).size = n * 4 := by simp [hS]
      split
      · rename_i hj
        have hjc : j < cur.size := by have : n * 4 ≤ cap * 4 := Nat.mul_le_mul_right 4 hle; omega
        simp only [putCells, Array.getElem?_mapIdx, Array.getElem?_eq_getElem hjc, Option.map_some]
        rw [if_pos ⟨Nat.zero_le _, by rw [hsz]; omega⟩, Array.getElem?_eq_getElem (by omega)]
        rw [Nat.sub_zero]
        exact congrArg some (getElem!_pos _ _ (by omega))
      · rename_i hj
        rw [Array.getElem?_eq_none (by omega)]
theorem below_putK {B : Nat} {w : World} {g q : Nat} {d : Array Sg.Value} (os : Array Obj) (hg : B ≤ g) (hB : B ≤ w.heap.size) : Below B w (grow (putRowK encValue 4 (Sort.ahead w q) g 0 d) os) := by
  have h : Below B w (putRowK encValue 4 (Sort.ahead w q) g 0 d) := Lib.below_putRow (Below.refl B w) hg
  refine ⟨h.os, h.tape, h.output, Nat.le_trans h.size (by simp [grow]), fun k hk => ?_⟩
  have hsz := h.size
  show ((putRowK encValue 4 (Sort.ahead w q) g 0 d).heap ++ os)[k]? = _
  rw [Array.getElem?_append_left (by omega)]
  exact h.block k hk

theorem Sg.cmpInt_lt (a b : Int) : Lib.compareInt a b = 0 ↔ a = b := by unfold Lib.compareInt; split <;> (try split) <;> simp <;> omega
theorem Sg.cmp_klt (x y : Sg.Value) : Sg.cmpV x y < 0 ↔ Sg.klt x y := by
  unfold Sg.cmpV Lx.orV Lx.orV Lx.orV Sg.klt Sg.nlt Sg.neq
  have hi : ∀ a b : Int, Lib.compareInt a b = 0 ↔ a = b := Sg.cmpInt_lt
  have hl : ∀ a b : Int, Lib.compareInt a b < 0 ↔ a < b := fun a b => by unfold Lib.compareInt; split <;> (try split) <;> simp <;> omega
  by_cases h1 : x.kind = y.kind
  · rw [if_pos ((hi _ _).2 h1)]
    by_cases h2 : Sg.cb x.text y.text = 0
    · have ht := Sg.cb_eq h2
      rw [if_pos h2]
      by_cases h3 : x.lo = y.lo
      · rw [if_pos ((hi _ _).2 h3)]
        simp only [Lx.orV]
        constructor
        · intro h; omega
        · rintro ((h | ⟨-, h⟩) | ⟨-, h⟩) <;> omega
      · rw [if_neg fun q => h3 ((hi _ _).1 q), hl]
        constructor
        · exact fun h => .inr ⟨⟨h1, ht⟩, h⟩
        · rintro ((h | ⟨-, h⟩) | ⟨-, h⟩)
          · omega
          · omega
          · exact h
    · rw [if_neg h2]
      constructor
      · exact fun h => .inl (.inr ⟨h1, h⟩)
      · rintro ((h | ⟨-, h⟩) | ⟨⟨-, ht⟩, h⟩)
        · omega
        · exact h
        · rw [ht, Sg.cb_self] at h2; exact absurd rfl h2
  · rw [if_neg fun q => h1 ((hi _ _).1 q), hl]
    constructor
    · exact fun h => .inl (.inl h)
    · rintro ((h | ⟨h, -⟩) | ⟨⟨h, -⟩, -⟩)
      · exact h
      · exact absurd h h1
      · exact absurd h h1
theorem Sg.not_klt {a b : Sg.Value} : ¬ Sg.klt a b ↔ Sg.kle b a := by
  constructor
  · intro h
    rcases Sg.k_cases a b with q | ⟨q, q'⟩ | q
    · exact absurd q h
    · exact .inr ⟨Sg.neq_symm q, by omega⟩
    · rcases q with q | ⟨q, q'⟩
      · exact .inl q
      · exact .inr ⟨q, by omega⟩
  · rintro (h | ⟨h, h'⟩) (q | ⟨q, q'⟩)
    · exact Sg.nlt_asymm h q
    · exact Sg.nlt_irr h (Sg.neq_symm q)
    · exact Sg.nlt_irr q (Sg.neq_symm h)
    · omega
theorem Sg.cmp_swo : SWO (ltOf Sg.cmpV) where
  irrefl x := by unfold ltOf; rw [decide_eq_false_iff_not, Sg.cmp_klt]; exact Sg.klt_irr
  trans x y z h1 h2 := by
    unfold ltOf at *
    rw [decide_eq_true_eq, Sg.cmp_klt] at *
    exact Sg.klt_trans h1 h2
  ntrans x y z h1 h2 := by
    unfold ltOf at *
    rw [decide_eq_false_iff_not, Sg.cmp_klt, Sg.not_klt] at *
    exact Sg.kle_trans h2 h1
set_option maxRecDepth 100000 in
set_option maxHeartbeats 2000000 in
theorem gCloneV_any (v : Value) (L : List Sg.Value) (w : World) (hr : RdS w w.heap.size 4 encValue v L) (hlen : L.length ≤ 1000) : Calls Tryz.prog 86 #[v] w (RetVals L w) := by
  have hr' := hr
  obtain ⟨A, c, rfl, hl, hc, hh⟩ := hr
  cases A with
  | none =>
    have h0 : L.length = 0 := by
      refine Decidable.byContradiction fun h => ?_
      obtain ⟨b, off, e, -⟩ := hh (by omega)
      cases e
    obtain rfl : L = [] := List.length_eq_zero_iff.1 h0
    refine (AnyE.slices_Clone_nil Tryz.cloneV 0 c w).mono ?_
    rintro e w' ⟨rfl, rfl⟩
    exact ⟨_, rfl, World.ownsRow_nil _ _ _ _, Below.refl _ _⟩
  | some a =>
    obtain ⟨i1, hi1, hz1, hs1', hb1'⟩ := info_parts info_Value
    have HOE : Hid ((w.alloc (.cells #[] 60)).ownsRow w.heap.size 60 4 (.slice (some ⟨w.heap.size, 0, none⟩) 0 0) 0 []) := Lib.hid (own_empty (Nat.le_refl _))
    have HRV : Hid (RdS (w.alloc (.cells #[] 60)) w.heap.size 4 encValue (.slice (some a) L.length c) L) := Lib.hid ((show RdS w w.heap.size 4 encValue (.slice (some a) L.length c) L from hr').below ((Below.refl _ _).alloc (Nat.le_refl _) _))
    have q22 := fun (w : World) (n c n' c' : Nat) => Lib.run_eql_slice_nil (P := Tryz.prog) w 47 _ (some a) n c n' c' Tryz.underlying47
    have hk1 : 0 + L.length ≤ maxLen := by simp only [maxLen]; omega
    have hk2 : (0 + L.length) * 40 ≤ 140737488355328 := by omega
    have hbase : w.heap.size ≤ (w.alloc (.cells #[] 60)).heap.size := by simp
    clear hh hl hc hr'
    go_enter Tryz.func86, Tryz.ntmps86
    go_wp2_with (at_builtin; go_must (refine wpList_append_rd (enc := encValue) rfl (.tmp 5) (.tmp 6) _ rfl w.heap.size 60 i1 _ 4 40 len_value one_value Tryz.underlying47 hi1 hz1 hs1' hb1' rfl (by decide) (.slice (some ⟨w.heap.size, 0, none⟩) 0 0) 0 [] rfl HOE.out w.heap.size (.slice (some a) L.length c) L rfl HRV.out hk1 hk2 hbase ?_))
    intro v8 w8 hown8 hg8 hat8
    have HO8 : Hid (w8.ownsRow w.heap.size 60 4 v8 L.length (L.flatMap encValue)) := Lib.hid (by simpa using hown8)
    have HB8 : Hid (Below w.heap.size w w8) := Lib.hid (((Below.refl w.heap.size w).alloc (Nat.le_refl _) (.cells #[] 60)).grown hg8 (by simp) (fun q hq => by simp [Value.ownBlock] at hq; omega))
    clear hown8 hg8 hat8
    go_wp2_with fail
    go_ret
    exact ⟨_, rfl, HO8.out, HB8.out⟩
def RetSort (base : Nat) (v : Value) (L : List Sg.Value) (w : World) (e : Ending) (w' : World) : Prop := e = .returned (.tuple #[]) ∧ ∃ S : List Sg.Value, S.Perm L ∧ S.Pairwise Sg.kle ∧ w'.ownsRow base 60 4 v S.length (S.flatMap encValue) ∧ Below base w w'
theorem gSortV_any (v : Value) (L : List Sg.Value) (base : Nat) (w : World) (h : w.ownsRow base 60 4 v L.length (L.flatMap encValue)) (hlen : L.length ≤ 1000) (hbw : base ≤ w.heap.size) : Calls Tryz.prog 121 #[v, .func (.func 122) #[] #[]] w (RetSort base v L w) := by
  by_cases h0 : L.length = 0
  · obtain rfl : L = [] := List.length_eq_zero_iff.1 h0
    obtain ⟨A, c, rfl⟩ := own_form h
    refine (AnyF.slices_SortFunc_none Tryz.sortV A c _ w).mono ?_
    rintro e w' ⟨rfl, rfl⟩
    exact ⟨rfl, [], List.Perm.refl _, List.Pairwise.nil, h, Below.refl _ _⟩
  · obtain ⟨g, cap, rfl⟩ : ∃ g cap, v = .slice (some ⟨g, 0, none⟩) L.length cap := by
      rcases h.2 with ⟨-, e⟩ | ⟨g, cap, cur, e, -⟩
      · omega
      · exact ⟨g, cap, e⟩
    obtain ⟨hH, hlt, hb⟩ := holdsK_of_own h
    have eg : ∀ args w, (callFunc 122 args).run Tryz.prog w = .ok (.enter 122 args) w := enters_of Tryz.func122 (by kernel_rfl) rfl
    have hcmp : CmpLays Tryz.prog 122 #[] encValue 4 Sg.cmpV g 0 L.toArray.size w := fun m os dk _ x y => gCompare_any x y _
    have := AnyQ.slices_SortFunc Tryz.sortV 4 Tryz.isAgg60 Tryz.sizeOf60 encValue len_value one_value Sg.cmpV Sg.cmp_swo 122 #[] g 0 cap L.toArray w eg hcmp hH hlt (by simp; omega)
    refine this.mono ?_
    rintro e w' ⟨rfl, d', n, os, hp, hs, rfl⟩
    have hsz : d'.toList.length = L.length := by simpa using hp.1
    have hperm : d'.toList.Perm L := by
      have := hp.2.2
      have e1 : d'.extract 0 L.toArray.size = d' := by rw [← hp.1]; simp
      have e2 : L.toArray.extract 0 L.toArray.size = L.toArray := by simp
      rw [e1, e2] at this
      simpa using this
    refine ⟨rfl, d'.toList, hperm, ?_, ?_, ?_⟩
    · rw [List.pairwise_iff_getElem]
      intro i j hi hj hij
      have := hs i j (Nat.zero_le _) hij (by simpa [hsz] using hj)
      unfold ltOf at this
      rw [decide_eq_false_iff_not, Sg.cmp_klt, Sg.not_klt] at this
      simpa [getElem!_pos, show i < d'.size by simpa using hi, show j < d'.size by simpa using hj] using this
    · rw [hsz]
      exact own_putK (S := d'.toList) os h hsz
    · exact below_putK os hb hbw
end Go.Proofs.YtkmimjngmfdpmaaGreatDoor
